/- What receivers have: the least rank of rows that fit, between loops and cliques. Plain. -/
import Derived.Test.YtahgjfmdafhedaaPlaM
import Derived.Test.YtahgjfmdafhedaaCountM
import Derived.Test.YtahgjfmdafhedaaBitL
namespace Go.Proofs.Ytahgjfmdafhedaa
open Go.RowKit Mat
set_option linter.unusedVariables false

/-- What receivers have. -/
structure HintsOk (has : List Int) : Prop where
  n1 : 1 ≤ has.length
  n4 : has.length ≤ 4
  ok : ∀ i, i < has.length → 0 ≤ gi has i ∧ gi has i < (2 ^ has.length : Nat)
  own : ∀ i, i < has.length → bitN (gi has i).toNat i = 0
def hN (has : List Int) (i : Nat) : Nat := (gi has i).toNat
theorem HintsOk.lt {has : List Int} (h : HintsOk has) {i : Nat} (hi : i < has.length) : hN has i < 2 ^ has.length := by
  have := h.ok i hi
  unfold hN; omega
theorem HintsOk.val {has : List Int} (h : HintsOk has) {i : Nat} (hi : i < has.length) : gi has i = (hN has i : Int) := by
  have := h.ok i hi
  unfold hN; omega
/-- The row of receiver i, with a set. -/
def hrow (n s i : Nat) : List Int := tab n (fun k => bitN (s ||| 2 ^ i) k)
theorem hrow_length (n s i : Nat) : (hrow n s i).length = n := tab_length _ _
theorem hrow_get {n s i k : Nat} (hk : k < n) : gi (hrow n s i) k = bitN (s ||| 2 ^ i) k := tab_get hk
theorem bitN_lt (s k : Nat) : bitN s k < 2 := by unfold bitN; omega
theorem hrow_good (n s i : Nat) : GoodRow ((2 : Nat) : Int) n (hrow n s i) := ⟨hrow_length _ _ _, fun k hk => by rw [hrow_get hk]; have := bitN_lt (s ||| 2 ^ i) k; omega⟩

/-- The rank of rows over 2. -/
noncomputable def rk2 (rows : List (List Int)) : Nat := Classical.epsilon fun d => Dim (mat 2 rows) rows.length d
theorem pr2 : Pr 2 := Or.inl rfl
theorem rk2_dim (rows : List (List Int)) : Dim (mat 2 rows) rows.length (rk2 rows) :=
  Classical.epsilon_spec (p := fun d => Dim (mat 2 rows) rows.length d) (by
    obtain ⟨d, _, hd⟩ := Dim.exists pr2 (mat 2 rows) rows.length
    exact ⟨d, hd⟩)
theorem red_rk2 {n : Nat} {rows out : List (List Int)} (h : IsRed 2 n rows out) : out.length = rk2 rows := h.dim.unique pr2 (rk2_dim rows)

/-- The least of b and of the numbers of those below k that are let in. -/
def minTo (f : Nat → Nat) (P : Nat → Bool) (b : Nat) : Nat → Nat
  | 0 => b
  | k + 1 => if P k then min (minTo f P b k) (f k) else minTo f P b k
theorem minTo_init (f : Nat → Nat) (P : Nat → Bool) (b : Nat) : ∀ k, minTo f P b k ≤ b
  | 0 => Nat.le_refl _
  | k + 1 => by
    have := minTo_init f P b k
    unfold minTo
    split <;> omega
theorem minTo_le {f : Nat → Nat} {P : Nat → Bool} {b s : Nat} (hp : P s = true) : ∀ {k}, s < k → minTo f P b k ≤ f s
  | 0, h => by omega
  | k + 1, h => by
    unfold minTo
    by_cases e : s = k
    · subst e
      rw [if_pos hp]; omega
    · have := minTo_le (f := f) (b := b) hp (k := k) (by omega)
      split <;> omega
theorem le_minTo {f : Nat → Nat} {P : Nat → Bool} {b L : Nat} (hb : L ≤ b) : ∀ {k}, (∀ s, s < k → P s = true → L ≤ f s) → L ≤ minTo f P b k
  | 0, _ => hb
  | k + 1, h => by
    have := le_minTo (f := f) (P := P) hb (k := k) (fun s hs => h s (by omega))
    unfold minTo
    split
    · have := h k (by omega) ‹_›
      omega
    · exact this
theorem minTo_from {f : Nat → Nat} {P : Nat → Bool} {b n : Nat} (hb : b ≤ n) : ∀ k, minTo f P b k = min b (minTo f P n k)
  | 0 => by unfold minTo; omega
  | k + 1 => by
    have := minTo_from (f := f) (P := P) hb k
    unfold minTo
    split <;> omega

/-- The sets that receiver i may take. -/
def mayB (has : List Int) (i s : Nat) : Bool := s &&& hN has i == s
theorem mayB_iff {has : List Int} {i s : Nat} : mayB has i s = true ↔ s &&& hN has i = s := by simp [mayB]
/-- The least rank of rows from here on. -/
noncomputable def fitsF (has : List Int) (n : Nat) : Nat → List (List Int) → Nat
  | 0, rows => rk2 rows
  | d + 1, rows => minTo (fun s => fitsF has n d (rows ++ [hrow n s rows.length])) (mayB has rows.length) n (2 ^ n)
/-- The first m rows fit. -/
def FitR (has : List Int) (n : Nat) (M : List (List Int)) (m : Nat) : Prop := ∀ i, i < m → ∃ s, s < 2 ^ n ∧ s &&& hN has i = s ∧ gr M i = hrow n s i
theorem fits_le {has : List Int} {n : Nat} : ∀ (d : Nat) {rows M : List (List Int)}, rows.length + d = n → M.length = n → (∀ i, i < rows.length → gr M i = gr rows i) → FitR has n M n → fitsF has n d rows ≤ rk2 M
  | 0, rows, M, hl, hM, he, hf => by
    have : M = rows := ext_gr (by omega) (fun i hi => he i (by omega))
    rw [this]; exact Nat.le_refl _
  | d + 1, rows, M, hl, hM, he, hf => by
    obtain ⟨s, hs, hss, hr⟩ := hf rows.length (by omega)
    refine Nat.le_trans (minTo_le (s := s) (mayB_iff.2 hss) hs) ?_
    refine fits_le d (by rw [List.length_append, List.length_singleton]; omega) hM (fun i hi => ?_) hf
    rw [List.length_append, List.length_singleton] at hi
    by_cases e : i < rows.length
    · rw [gr_snoc_lt e, he i e]
    · obtain rfl : i = rows.length := by omega
      rw [gr_snoc_eq rfl, hr]
theorem le_fits {has : List Int} {n L : Nat} (hL : L ≤ n) (hall : ∀ M : List (List Int), M.length = n → FitR has n M n → L ≤ rk2 M) : ∀ (d : Nat) {rows : List (List Int)}, rows.length + d = n → FitR has n rows rows.length → L ≤ fitsF has n d rows
  | 0, rows, hl, hf => hall rows (by omega) (by rw [show n = rows.length by omega] at hf ⊢; exact hf)
  | d + 1, rows, hl, hf => le_minTo hL (fun s hs hp => le_fits hL hall d (by rw [List.length_append, List.length_singleton]; omega) (fun i hi => by
      rw [List.length_append, List.length_singleton] at hi
      by_cases e : i < rows.length
      · obtain ⟨t, h1, h2, h3⟩ := hf i e
        exact ⟨t, h1, h2, by rw [gr_snoc_lt e, h3]⟩
      · obtain rfl : i = rows.length := by omega
        exact ⟨s, hs, mayB_iff.1 hp, gr_snoc_eq rfl⟩))
theorem fits_top {has : List Int} {n : Nat} : ∀ {d : Nat} {rows : List (List Int)}, d ≠ 0 → fitsF has n d rows ≤ n
  | 0, _, h => absurd rfl h
  | d + 1, rows, _ => minTo_init _ _ _ _

/-- All of a set can be taken away. -/
inductive Elim (has : List Int) (n : Nat) : Nat → Prop
  | zero : Elim has n 0
  | step {s i : Nat} : i < n → bitN s i = 1 → hN has i &&& s = 0 → Elim has n (wo s (2 ^ i)) → Elim has n s

theorem wo_bit : ∀ s : Nat, s < 16 → ∀ i : Nat, i < 4 → ∀ k : Nat, k < 4 → bitN (wo s (2 ^ i)) k = if k = i then 0 else bitN s k := by decide +kernel
theorem or_bit : ∀ s : Nat, s < 16 → ∀ i : Nat, i < 4 → ∀ k : Nat, k < 4 → bitN (s ||| 2 ^ i) k = if k = i then 1 else bitN s k := by decide +kernel
theorem and_zero : ∀ s : Nat, s < 16 → ∀ t : Nat, t < 16 → ∀ k : Nat, k < 4 → s &&& t = 0 → bitN t k = 1 → bitN s k = 0 := by decide +kernel
theorem and_part : ∀ s : Nat, s < 16 → ∀ t : Nat, t < 16 → ∀ k : Nat, k < 4 → s &&& t = s → bitN t k = 0 → bitN s k = 0 := by decide +kernel
theorem wo_le (a b : Nat) : wo a b ≤ a := Nat.sub_le _ _
theorem bit_vals (s k : Nat) : bitN s k = 0 ∨ bitN s k = 1 := by unfold bitN; omega

theorem elim_ind {has : List Int} {n : Nat} {M : List (List Int)} (hn : n ≤ 4) (hh : ∀ i, i < n → hN has i < 2 ^ n) (hf : FitR has n M n) : ∀ {s : Nat}, Elim has n s → s < 2 ^ n →
    ∀ c : Nat → Fin 2, (∀ k, k < n → bitN s k = 1 → sm (fun i => if bitN s i = 1 then c i * mat 2 M i k else 0) n = 0) → ∀ i, i < n → bitN s i = 1 → c i = 0 := by
  intro s he
  induction he with
  | zero =>
    intro _ c _ i _ hb
    exfalso
    unfold bitN at hb
    simp at hb
  | @step s i hi hb ha hE ih =>
    intro hs c hc
    have h16 : 2 ^ n ≤ 16 := two_pow_le (m := n) (n := 4) hn
    have hrow0 : ∀ k, k < n → bitN s k = 1 → k ≠ i → mat 2 M i k = 0 := fun k hk hbk hne => by
      obtain ⟨u, hu, hus, hr⟩ := hf i hi
      show phi 2 (gi (gr M i) k) = 0
      have h0 : bitN u k = 0 := by
        have hz : bitN (hN has i) k = 0 := and_zero _ (by have := hh i hi; omega) s (by omega) k (by omega) ha hbk
        exact and_part u (by omega) _ (by have := hh i hi; omega) k (by omega) hus hz
      rw [hr, hrow_get hk, or_bit u (by omega) i (by omega) k (by omega), if_neg hne, h0]
      exact phi_zero
    have hrow1 : mat 2 M i i = 1 := by
      obtain ⟨u, hu, hus, hr⟩ := hf i hi
      show phi 2 (gi (gr M i) i) = 1
      rw [hr, hrow_get hi, or_bit u (by omega) i (by omega) i (by omega), if_pos rfl]
      exact phi_one
    have hrest : ∀ j, j < n → bitN (wo s (2 ^ i)) j = 1 → c j = 0 := by
      refine ih (Nat.lt_of_le_of_lt (wo_le _ _) hs) c (fun k hk hbk => ?_)
      have hwk := wo_bit s (by omega) i (by omega) k (by omega)
      rw [hbk] at hwk
      have hne : k ≠ i := fun e => by rw [if_pos e] at hwk; omega
      rw [if_neg hne] at hwk
      refine Eq.trans ?_ (hc k hk hwk.symm)
      refine sm_congr (fun j hj => ?_)
      have hwj := wo_bit s (by omega) i (by omega) j (by omega)
      by_cases e : j = i
      · subst e
        rw [if_pos rfl] at hwj
        rw [if_neg (by omega), if_pos hb, hrow0 k hk hwk.symm hne]
        grind
      · rw [if_neg e] at hwj
        rw [hwj]
    intro j hj hbj
    by_cases e : j = i
    · subst e
      have h1 := hc j hj hb
      rw [sm_single j hj (fun l hl hne => by
        split
        · rename_i hbl
          rw [hrest l hl (by rw [wo_bit s (by omega) j (by omega) l (by omega), if_neg hne, hbl])]
          grind
        · rfl), if_pos hb, hrow1] at h1
      grind
    · exact hrest j hj (by rw [wo_bit s (by omega) i (by omega) j (by omega), if_neg e, hbj])
theorem cnt_wt (s : Nat) : ∀ n, cntB (fun i => decide (bitN s i = 1)) n = wtN s n
  | 0 => rfl
  | n + 1 => by
    rw [cntB, wtN, cnt_wt s n]
    rcases bit_vals s n with h | h
    · rw [h]; simp
    · rw [h]; simp
theorem elim_rk {has : List Int} {n : Nat} {M : List (List Int)} (hn : n ≤ 4) (hh : ∀ i, i < n → hN has i < 2 ^ n) (hM : M.length = n) (hf : FitR has n M n) {s : Nat} (he : Elim has n s) (hs : s < 2 ^ n) : wtN s n ≤ rk2 M := by
  obtain ⟨B, b1, b2, b3⟩ := rk2_dim M
  rw [hM] at b3
  have hi : IndB (mat 2 M) (fun i => decide (bitN s i = 1)) n := fun c hc i hi hp => by
    refine elim_ind hn hh hf he hs c (fun k hk hb => ?_) i hi (of_decide_eq_true hp)
    refine Eq.trans ?_ (hc k)
    refine sm_congr (fun j hj => ?_)
    rcases bit_vals s j with h | h
    · rw [if_neg (by omega), if_neg (by simp; omega)]
    · rw [if_pos h, if_pos (by simpa using h)]
  have h := dim_pick pr2 (rk2 M) (fun i hi _ => b3 i hi) hi
  rw [cnt_wt] at h
  exact h

/-- All of a set have each other's words. -/
def Clq (has : List Int) (n t : Nat) : Prop := ∀ i, i < n → bitN t i = 1 → wo (wo t (2 ^ i)) (hN has i) = 0
/-- A set is parted into g such groups, or g is many. -/
inductive Cov (has : List Int) (n : Nat) : Nat → Nat → Prop
  | zero : Cov has n 0 0
  | big {s g : Nat} : n ≤ g → Cov has n s g
  | step {s t g : Nat} : t &&& s = t → Clq has n t → Cov has n (wo s t) g → Cov has n s (g + 1)
theorem wo_zero : ∀ s : Nat, s < 16 → ∀ t : Nat, t < 16 → wo s t = 0 → s &&& t = s := by decide +kernel
theorem wo_or : ∀ s : Nat, s < 16 → ∀ i : Nat, i < 4 → bitN s i = 1 → wo s (2 ^ i) ||| 2 ^ i = s := by decide +kernel
theorem wo_other : ∀ s : Nat, s < 16 → ∀ t : Nat, t < 16 → ∀ i : Nat, i < 4 → bitN s i = 1 → bitN t i = 0 → bitN (wo s t) i = 1 := by decide +kernel
theorem cov_rows {has : List Int} {n : Nat} (hn : n ≤ 4) (hh : ∀ i, i < n → hN has i < 2 ^ n) : ∀ {s g : Nat}, Cov has n s g → s < 2 ^ n →
    n ≤ g ∨ ∃ B : Nat → Nat → Fin 2, ∀ i, i < n → bitN s i = 1 → ∃ u, u < 2 ^ n ∧ u &&& hN has i = u ∧ ∃ j, j < g ∧ ∀ k, vec 2 (hrow n u i) k = B j k := by
  intro s g h
  induction h with
  | zero =>
    intro _
    exact .inr ⟨fun _ _ => 0, fun i _ hb => by unfold bitN at hb; simp at hb⟩
  | big h => intro _; exact .inl h
  | @step s t g hts hq hc ih =>
    intro hs
    have h16 : 2 ^ n ≤ 16 := two_pow_le (m := n) (n := 4) hn
    have ht : t < 2 ^ n := Nat.lt_of_le_of_lt (Sub.le hts) hs
    rcases ih (Nat.lt_of_le_of_lt (wo_le _ _) hs) with h | ⟨B, hB⟩
    · exact .inl (by omega)
    · refine .inr ⟨fun j => if j = g then vec 2 (tab n (fun k => (bitN t k : Int))) else B j, fun i hi hb => ?_⟩
      rcases bit_vals t i with h0 | h1
      · obtain ⟨u, u1, u2, j, hj, hv⟩ := hB i hi (wo_other s (by omega) t (by omega) i (by omega) hb h0)
        exact ⟨u, u1, u2, j, by omega, fun k => by show _ = (if j = g then _ else B j) k; rw [if_neg (by omega), hv k]⟩
      · refine ⟨wo t (2 ^ i), Nat.lt_of_le_of_lt (wo_le _ _) ht, wo_zero _ (by have := wo_le t (2 ^ i); omega) _ (by have := hh i hi; omega) (hq i hi h1), g, by omega, fun k => ?_⟩
        show _ = (if g = g then _ else B g) k
        rw [if_pos rfl]
        unfold hrow
        rw [wo_or t (by omega) i (by omega) h1]
theorem cov_fits {has : List Int} {n g : Nat} (hn : n ≤ 4) (h1 : 1 ≤ n) (hh : ∀ i, i < n → hN has i < 2 ^ n) (h : Cov has n (2 ^ n - 1) g) : fitsF has n n [] ≤ g := by
  have hp := Nat.two_pow_pos n
  rcases cov_rows hn hh h (by omega) with h | ⟨B, hB⟩
  · exact Nat.le_trans (fits_top (by omega)) h
  · have hx : ∀ i, ∃ u, i < n → (u < 2 ^ n ∧ u &&& hN has i = u ∧ ∃ j, j < g ∧ ∀ k, vec 2 (hrow n u i) k = B j k) := fun i => by
      by_cases c : i < n
      · obtain ⟨u, hu⟩ := hB i c (by
          have : ∀ n : Nat, n < 5 → ∀ i : Nat, i < n → bitN (2 ^ n - 1) i = 1 := by decide +kernel
          exact this n (by omega) i c)
        exact ⟨u, fun _ => hu⟩
      · exact ⟨0, fun h => absurd h c⟩
    obtain ⟨u, hu⟩ : ∃ u : Nat → Nat, ∀ i, i < n → (u i < 2 ^ n ∧ u i &&& hN has i = u i ∧ ∃ j, j < g ∧ ∀ k, vec 2 (hrow n (u i) i) k = B j k) := ⟨fun i => Classical.choose (hx i), fun i => Classical.choose_spec (hx i)⟩
    obtain ⟨M, hM⟩ : ∃ M, M = (List.range n).map (fun i => hrow n (u i) i) := ⟨_, rfl⟩
    have hl : M.length = n := by rw [hM]; simp
    have hg : ∀ i, i < n → gr M i = hrow n (u i) i := fun i hi => by
      unfold gr
      rw [hM, List.getD_eq_getElem?_getD, List.getElem?_map, List.getElem?_range hi]
      rfl
    have hf : FitR has n M n := fun i hi => ⟨u i, (hu i hi).1, (hu i hi).2.1, hg i hi⟩
    refine Nat.le_trans (fits_le n (by simp) hl (fun i hi => absurd hi (by simp)) hf) ?_
    obtain ⟨C, c1, c2, c3⟩ := rk2_dim M
    refine dim_le pr2 (S := B) (fun i hi => (c2 i hi).mono (fun j hj => ?_)) c1
    rw [hl] at hj
    obtain ⟨_, _, l, hl1, hv⟩ := hu j hj
    refine (Span.row B hl1).congr (fun k => ?_)
    rw [← hv k]
    show vec 2 (gr M j) k = _
    rw [hg j hj]
/-- Sends are at least those that can be taken away, and at least one. -/
theorem elim_fits {has : List Int} {n s : Nat} (hn : n ≤ 4) (hh : ∀ i, i < n → hN has i < 2 ^ n) (he : Elim has n s) (hs : s < 2 ^ n) : wtN s n ≤ fitsF has n n [] := by
  have hw : ∀ n : Nat, n < 5 → ∀ s : Nat, s < 2 ^ n → wtN s n ≤ n := by decide +kernel
  exact le_fits (hw n (by omega) s hs) (fun M hM hf => elim_rk hn hh hM hf he hs) n (by simp) (fun i hi => absurd hi (by simp))
theorem fits_one {has : List Int} (h : HintsOk has) : 1 ≤ fitsF has has.length has.length [] := by
  have h1 := h.n1
  have h4 := h.n4
  have h16 : 2 ^ has.length ≤ 16 := two_pow_le (m := has.length) (n := 4) h4
  have h2 : 2 ≤ 2 ^ has.length := two_pow_le (m := 1) h1
  have hl := h.lt (i := 0) (by omega)
  have he : Elim has has.length 1 := .step (i := 0) (by omega) rfl (by
    have : ∀ s : Nat, s < 16 → bitN s 0 = 0 → s &&& 1 = 0 := by decide +kernel
    exact this _ (by omega) (h.own 0 (by omega))) .zero
  have hw : ∀ n : Nat, n < 5 → 1 ≤ n → wtN 1 n = 1 := by decide +kernel
  have := elim_fits h4 (fun i hi => h.lt hi) he (by omega)
  rw [hw _ (by omega) h1] at this
  exact this
end Go.Proofs.Ytahgjfmdafhedaa
