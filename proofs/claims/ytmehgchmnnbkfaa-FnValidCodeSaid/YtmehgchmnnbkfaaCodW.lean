/- Ranks of checks by ranks of rows, and weights of checks by weights of words. Plain. -/
import Derived.Test.YtmehgchmnnbkfaaCodH
import Derived.Test.YtmehgchmnnbkfaaCodS
namespace Go.Proofs.Ytmehgchmnnbkfaa
open Go.RowKit Mat
set_option linter.unusedVariables false

section
variable {q : Nat} [NeZero q]

/-! The same sums, the same ranks, the same weights. -/
theorem Dim.span_eq {R R' : Nat → Nat → Fin q} {m m' d : Nat} (h : Dim R m d) (hs : ∀ v, Span R m v ↔ Span R' m' v) : Dim R' m' d := by
  obtain ⟨B, b1, b2, b3⟩ := h
  exact ⟨B, b1, fun i hi => (hs _).1 (b2 i hi), fun i hi => ((hs _).2 (Span.row R' hi)).mono b3⟩
theorem msk_span {n : Nat} {rows rows' : List (List Int)} (h : ∀ i, i < rows.length → Span (mat q rows') rows'.length (mat q rows i)) (s : Nat) {v : Nat → Fin q} (hv : Span (mskR q s n rows) rows.length v) : Span (mskR q s n rows') rows'.length v :=
  hv.mono (fun i hi => Go.Proofs.Ytmehgchmnnbkfaa.Span.pk (h i hi))
theorem rk_same (hq : Pr q) {n : Nat} {rows rows' : List (List Int)} (hs : ∀ v, Span (mat q rows) rows.length v ↔ Span (mat q rows') rows'.length v) (s : Nat) : rkN q n rows s = rkN q n rows' s :=
  ((rkN_dim hq n rows s).span_eq (fun v => ⟨msk_span (fun i hi => (hs _).1 (Span.row _ hi)) s, msk_span (fun i hi => (hs _).2 (Span.row _ hi)) s⟩)).unique hq (rkN_dim hq n rows' s)
theorem wts_same (hq : Pr q) {n : Nat} {rows rows' : List (List Int)} (hn : n ≤ 7) (hg : GoodRows q n rows) (hg' : GoodRows q n rows') (hl : rows'.length = rows.length) (hs : ∀ s, rkN q n rows s = rkN q n rows' s) : wtsTo q n rows (q ^ rows.length) = wtsTo q n rows' (q ^ rows'.length) := by
  have h := moments_unique (n := n) (a := fun w => (wN q n rows (q ^ rows.length) w : Int)) (b := fun w => (wN q n rows' (q ^ rows'.length) w : Int)) (fun s hs' => by
    rw [momentsZ hq hg hn hs', momentsZ hq hg' hn hs']
    unfold rkSum
    rw [hl]
    congr 1
    exact sumN_congr (fun S _ => by rw [hs S]))
  refine ext_gi (by rw [wtsTo_length, wtsTo_length]) (fun w hw => ?_)
  rw [wtsTo_length] at hw
  rw [wts_wN q n rows _ w (by omega), wts_wN q n rows' _ w (by omega)]
  exact h w (by omega)

/-- Reduced rows of a code are a code of the same weights. -/
theorem ValidC.plainW {rows out : List (List Int)} (hv : ValidC q rows) (hr : IsRed q (gr rows 0).length rows out) : ValidC q out ∧ out.length = rows.length ∧ wtsOf q out = wtsOf q rows := by
  have hq : Pr q := (vtB_ok hv.1).pr
  obtain ⟨_, h4, o, ho, hl⟩ := id hv
  obtain rfl : o = out := ho.unique ⟨q, _, rfl, hq, hr⟩
  have hto := (vtB_ok hv.1).of_red hr (by rw [hl]; exact hv.few.1)
  have h2 : RedOf q o o := ⟨q, _, rfl, hq, by rw [hto.cols]; exact hr.self⟩
  refine ⟨⟨hto.vtB, by omega, o, h2, rfl⟩, hl, ?_⟩
  unfold wtsOf
  rw [Int.toNat_natCast, hto.cols]
  exact (wts_same hq hv.code.tab.n7 (vtB_good hv.1) hto.good hl (fun s => rk_same hq hr.inv.span s)).symm

/-! Duality. -/
/-- One column more: at most one more of rank. -/
theorem rk_up {n : Nat} {rows : List (List Int)} (h : CodeOk q n rows) {s i : Nat} (hs : s < 2 ^ n) (hi : i < n) (hb : bitN s i = 0) : rkN q n rows (s ||| 2 ^ i) ≤ rkN q n rows s + 1 := by
  have hn := h.tab.n7
  have hp := pow_lt hn
  obtain ⟨B, b1, b2, b3⟩ := rkN_dim h.tab.pr n rows s
  obtain ⟨B', c1, c2, c3⟩ := rkN_dim h.tab.pr n rows (s ||| 2 ^ i)
  obtain ⟨U, hU⟩ : ∃ U : Nat → Nat → Fin q, U = fun j => if j < rkN q n rows s then B j else fun k => if k = i then 1 else 0 := ⟨_, rfl⟩
  have hUB : ∀ j, j < rkN q n rows s → U j = B j := fun j hj => by rw [hU]; simp only [if_pos hj]
  have hUe : U (rkN q n rows s) = fun k => if k = i then 1 else 0 := by rw [hU]; simp only [Nat.lt_irrefl, if_false]
  have hin : ∀ j, j < rkN q n rows s → Span U (rkN q n rows s + 1) (B j) := fun j hj => by
    have := Span.row U (m := rkN q n rows s + 1) (i := j) (by omega)
    rw [hUB j hj] at this; exact this
  have hlast : Span U (rkN q n rows s + 1) (fun k => if k = i then (1 : Fin q) else 0) := by
    have := Span.row U (m := rkN q n rows s + 1) (i := rkN q n rows s) (by omega)
    rw [hUe] at this; exact this
  refine dim_le h.tab.pr (S := U) (fun j hj => (c2 j hj).mono (fun r hr => ?_)) c1
  have e : ∀ k, mskR q (s ||| 2 ^ i) n rows r k = mskR q s n rows r k + mat q rows r i * (if k = i then 1 else 0) := fun k => by
    unfold mskR pk
    by_cases hk : k < n
    · have hob := or_bits s (by omega) i (by omega) k (by omega)
      by_cases e : k = i
      · subst e
        rw [if_pos rfl] at hob
        rw [if_pos (inS_iff.2 ⟨hk, hob⟩), if_neg (fun h => by have := (inS_iff.1 h).2; omega), if_pos rfl]; grind
      · rw [if_neg e] at hob
        rw [if_neg e]
        by_cases c : bitN s k = 1
        · rw [if_pos (inS_iff.2 ⟨hk, by omega⟩), if_pos (inS_iff.2 ⟨hk, c⟩)]; grind
        · rw [if_neg (fun h => by have := (inS_iff.1 h).2; omega), if_neg (fun h => c (inS_iff.1 h).2)]; grind
    · rw [if_neg (fun h => hk (inS_iff.1 h).1), if_neg (fun h => hk (inS_iff.1 h).1), if_neg (by omega)]; grind
  exact (((b3 r hr).mono hin).add (hlast.smul (mat q rows r i))).congr e

/-- What is no sum of some columns is told from them by a word. -/
theorem CodeOk.sep {n : Nat} {rows : List (List Int)} (h : CodeOk q n rows) {s i : Nat} (hs : s < 2 ^ n) (hi : i < n) (hb : bitN s i = 0) (hno : ¬ HelpC q rows n s i) : ∃ t, t < q ^ rows.length ∧ VanT q n rows s t ∧ gi (wordT q n rows t) i ≠ 0 := by
  have hn := h.tab.n7
  have hp := pow_lt hn
  have hq := h.tab.pr.pos
  have hst := rk_step h.tab.pr h.tab.good h.tab.cols hn (s := s) (by omega) hi hb
  have hm := rk_mono h.tab.pr h.tab.good (s := s) (s' := s ||| 2 ^ i) (fun j hj hbj => by
    have := or_bits s (by omega) i (by omega) j (by omega)
    rw [this]; split <;> omega)
  have hlt : rkN q n rows s < rkN q n rows (s ||| 2 ^ i) := by
    have : rkN q n rows (s ||| 2 ^ i) ≠ rkN q n rows s := fun e => hno (hst.2 e)
    omega
  apply Classical.byContradiction; intro hall
  have hc := cntP_mono (P := VanT q n rows s) (Q := VanT q n rows (s ||| 2 ^ i)) (n := q ^ rows.length) (fun t ht hv j hj hbj => by
    have hb2 := or_bits s (by omega) i (by omega) j (by omega)
    rw [hb2] at hbj
    by_cases e : j = i
    · subst e
      apply Classical.byContradiction; intro h0
      exact hall ⟨t, ht, hv, h0⟩
    · rw [if_neg e] at hbj; exact hv j hj hbj)
  rw [van_count h.tab.pr h.tab.good, van_count h.tab.pr h.tab.good] at hc
  have := pow_le_iff hq.1 hc
  have := rk_le h.tab.pr n rows (s ||| 2 ^ i)
  omega
theorem dual_orth {n : Nat} {rows a : List (List Int)} (h : CodeOk q n rows) (hr : IsRed q n rows a) (u t : Nat) : dt n (vec q (wordT q n (nlTo q n a n) u)) (vec q (wordT q n rows t)) = 0 := by
  refine dt_span (R := mat q rows) (n := rows.length) ⟨_, fun k => wordT_vec h.tab.good t k⟩ (fun k hk => ?_)
  rw [dt_comm]
  exact dt_span (R := mat q (nlTo q n a n)) (n := (nlTo q n a n).length) ⟨_, fun j => wordT_vec (nlTo_good h.tab.pr n a n) u j⟩ (fun i hi => by rw [dt_comm]; exact nulls_orth h.tab.pr hr hi hk)

theorem or_but1 : ∀ n : Nat, n < 8 → ∀ s : Nat, s < 2 ^ n → ∀ i : Nat, i < n → bitN s i = 0 → (2 ^ n - 1 - (s ||| 2 ^ i)) ||| 2 ^ i = 2 ^ n - 1 - s := by decide +kernel
theorem or_but2 : ∀ n : Nat, n < 8 → ∀ s : Nat, s < 2 ^ n → ∀ i : Nat, i < n → bitN s i = 0 → bitN (2 ^ n - 1 - (s ||| 2 ^ i)) i = 0 := by decide +kernel
theorem or_but3 : ∀ n : Nat, n < 8 → ∀ s : Nat, s < 2 ^ n → ∀ i : Nat, i < n → bitN s i = 0 → s ||| 2 ^ i < 2 ^ n := by decide +kernel
theorem or_but4 : ∀ n : Nat, n < 8 → ∀ s : Nat, s < 2 ^ n → ∀ i : Nat, i < n → bitN s i = 0 → wtN (s ||| 2 ^ i) n = wtN s n + 1 := by decide +kernel
theorem or_but (n : Nat) (hn : n < 8) (s : Nat) (hs : s < 2 ^ n) (i : Nat) (hi : i < n) (hb : bitN s i = 0) : ((2 ^ n - 1 - (s ||| 2 ^ i)) ||| 2 ^ i = 2 ^ n - 1 - s ∧ bitN (2 ^ n - 1 - (s ||| 2 ^ i)) i = 0) ∧ s ||| 2 ^ i < 2 ^ n ∧ wtN (s ||| 2 ^ i) n = wtN s n + 1 :=
  ⟨⟨or_but1 n hn s hs i hi hb, or_but2 n hn s hs i hi hb⟩, or_but3 n hn s hs i hi hb, or_but4 n hn s hs i hi hb⟩
/-- One column more: what the ranks lose and gain. -/
theorem CodeOk.dual_step {n : Nat} {rows a : List (List Int)} (h : CodeOk q n rows) (hr : IsRed q n rows a) (h1 : 1 ≤ (nlTo q n a n).length) (h4 : (nlTo q n a n).length ≤ 4) {s i : Nat} (hs : s < 2 ^ n) (hi : i < n) (hb : bitN s i = 0) :
    rkN q n rows (2 ^ n - 1 - s) + rkN q n (nlTo q n a n) (s ||| 2 ^ i) ≤ 1 + rkN q n rows (2 ^ n - 1 - (s ||| 2 ^ i)) + rkN q n (nlTo q n a n) s := by
  have hd := h.dual hr h1 h4
  have hn := h.tab.n7
  have hp := pow_lt hn
  have hob := or_but n (by omega) s hs i hi hb
  have hS : 2 ^ n - 1 - (s ||| 2 ^ i) < 2 ^ n := rest_lt
  have e1 := rk_step h.tab.pr h.tab.good h.tab.cols hn (s := 2 ^ n - 1 - (s ||| 2 ^ i)) (Nat.lt_of_lt_of_le hS hp) hi hob.1.2
  rw [hob.1.1] at e1
  have e2 := rk_step hd.tab.pr hd.tab.good hd.tab.cols hn (s := s) (by omega) hi hb
  have u1 := rk_up h (s := 2 ^ n - 1 - (s ||| 2 ^ i)) hS hi hob.1.2
  rw [hob.1.1] at u1
  have u2 := rk_up hd hs hi hb
  by_cases c1 : HelpC q rows n (2 ^ n - 1 - (s ||| 2 ^ i)) i
  · have := e1.1 c1; omega
  · by_cases c2 : HelpC q (nlTo q n a n) n s i
    · have := e2.1 c2; omega
    · exfalso
      obtain ⟨t, _, hv, ht⟩ := h.sep hS hi hob.1.2 c1
      obtain ⟨u, _, hu, hui⟩ := hd.sep hs hi hb c2
      have h0 := dual_orth h hr u t
      have hw := wordT_good h.tab.pr h.tab.good t
      have hwu := wordT_good hd.tab.pr hd.tab.good u
      unfold dt at h0
      rw [sm_single i hi (fun j hj hne => by
        rcases bit01 s j with c | c
        · have hbj : bitN (2 ^ n - 1 - (s ||| 2 ^ i)) j = 1 := by
            rw [bit_rest hn hob.2.1 hj, or_bits s (by omega) i (by omega) j (by omega), if_neg hne]; omega
          rw [(vec_zero hw).2 (hv j hj hbj)]; grind
        · rw [(vec_zero hwu).2 (hu j hj c)]; grind)] at h0
      exact fin_mul_ne h.tab.pr (fun e => hui ((vec_zero hwu).1 e)) (fun e => ht ((vec_zero hw).1 e)) h0
theorem wtz1 : ∀ n : Nat, n < 8 → ∀ s : Nat, s < 2 ^ n → wtN s n = n → s = 2 ^ n - 1 := by decide +kernel
theorem wtz2 : ∀ n : Nat, n < 8 → ∀ s : Nat, s < 2 ^ n → wtN s n < n → ∃ i, i < n ∧ bitN s i = 0 := by decide +kernel
theorem wtz3 : ∀ n : Nat, n < 8 → ∀ s : Nat, s < 2 ^ n → 0 < wtN s n → ∃ i, i < n ∧ bitN s i = 1 := by decide +kernel
theorem wtz4 : ∀ n : Nat, n < 8 → ∀ s : Nat, s < 2 ^ n → wtN s n = 0 → s = 0 := by decide +kernel
theorem wtz5 : ∀ s : Nat, s < 128 → ∀ i : Nat, i < 7 → bitN s i = 1 → bitN (s - 2 ^ i) i = 0 := by decide +kernel
theorem wtz6 : ∀ s : Nat, s < 128 → ∀ i : Nat, i < 7 → bitN s i = 1 → (s - 2 ^ i) ||| 2 ^ i = s := by decide +kernel
theorem wt_zero_set (n : Nat) (hn : n < 8) (s : Nat) (hs : s < 2 ^ n) : (wtN s n = n → s = 2 ^ n - 1) ∧ (wtN s n < n → ∃ i, i < n ∧ bitN s i = 0) ∧ (0 < wtN s n → ∃ i, i < n ∧ bitN s i = 1 ∧ bitN (s - 2 ^ i) i = 0 ∧ (s - 2 ^ i) ||| 2 ^ i = s) ∧ (wtN s n = 0 → s = 0) := by
  have hp := pow_lt (show n ≤ 7 by omega)
  refine ⟨wtz1 n hn s hs, wtz2 n hn s hs, fun h => ?_, wtz4 n hn s hs⟩
  obtain ⟨i, hi, hb⟩ := wtz3 n hn s hs h
  exact ⟨i, hi, hb, wtz5 s (by omega) i (by omega) hb, wtz6 s (by omega) i (by omega) hb⟩
/-- Ranks of the checks by ranks of the rows. -/
theorem CodeOk.dual_rk {n : Nat} {rows a : List (List Int)} (h : CodeOk q n rows) (hr : IsRed q n rows a) (h1 : 1 ≤ (nlTo q n a n).length) (h4 : (nlTo q n a n).length ≤ 4) {s : Nat} (hs : s < 2 ^ n) :
    wtN s n + rkN q n rows (2 ^ n - 1 - s) = rows.length + rkN q n (nlTo q n a n) s := by
  have hd := h.dual hr h1 h4
  have hn := h.tab.n7
  have hl := h.dual_len hr
  have hN := Nat.two_pow_pos n
  have h00 : rkN q n rows 0 = 0 := by have := rk_wt h.tab.pr h.tab.good 0; rw [wtN_zero] at this; omega
  have h0d : rkN q n (nlTo q n a n) 0 = 0 := by have := rk_wt hd.tab.pr hd.tab.good 0; rw [wtN_zero] at this; omega
  -- up: from none
  have lower : ∀ m s, s < 2 ^ n → wtN s n = m → rows.length + rkN q n (nlTo q n a n) s ≤ wtN s n + rkN q n rows (2 ^ n - 1 - s) := by
    intro m
    induction m with
    | zero =>
      intro s hs hw
      obtain rfl := (wt_zero_set n (by omega) s hs).2.2.2 hw
      rw [h0d, wtN_zero, Nat.sub_zero, h.rk_all]; omega
    | succ m ih =>
      intro s hs hw
      obtain ⟨i, hi, hb, hb0, he⟩ := (wt_zero_set n (by omega) s hs).2.2.1 (by omega)
      have hs0 : s - 2 ^ i < 2 ^ n := Nat.lt_of_le_of_lt (Nat.sub_le _ _) hs
      have hob := or_but n (by omega) (s - 2 ^ i) hs0 i hi hb0
      rw [he] at hob
      have hst := h.dual_step hr h1 h4 hs0 hi hb0
      rw [he] at hst
      have := ih (s - 2 ^ i) hs0 (by omega)
      omega
  have upper : ∀ m s, s < 2 ^ n → n = wtN s n + m → wtN s n + rkN q n rows (2 ^ n - 1 - s) ≤ rows.length + rkN q n (nlTo q n a n) s := by
    intro m
    induction m with
    | zero =>
      intro s hs hw
      obtain rfl := (wt_zero_set n (by omega) s hs).1 (by omega)
      rw [Nat.sub_self, h00, hd.rk_all]; omega
    | succ m ih =>
      intro s hs hw
      obtain ⟨i, hi, hb⟩ := (wt_zero_set n (by omega) s hs).2.1 (by omega)
      have hob := or_but n (by omega) s hs i hi hb
      have hst := h.dual_step hr h1 h4 hs hi hb
      have := ih (s ||| 2 ^ i) hob.2.1 (by omega)
      omega
  have hw := wtN_le s n
  have l := lower _ s hs rfl
  have u := upper (n - wtN s n) s hs (by omega)
  omega
end

/-! Weights of checks. -/
theorem sumN_rev (f : Nat → Nat) : ∀ n, sumN f n = sumN (fun i => f (n - 1 - i)) n
  | 0 => rfl
  | n + 1 => by
    have key : ∀ (g : Nat → Nat) m, sumN g (m + 1) = g 0 + sumN (fun i => g (i + 1)) m := by
      intro g m
      induction m with
      | zero => simp [sumN]
      | succ m ih => rw [sumN, ih, sumN]; omega
    rw [sumN, sumN_rev f n, key (fun i => f (n + 1 - 1 - i)) n]
    rw [sumN_congr (f := fun i => f (n - 1 - i)) (g := fun i => f (n + 1 - 1 - (i + 1))) (fun i hi => by congr 1; omega)]
    have : n + 1 - 1 - 0 = n := by omega
    rw [this]; omega
/-- Krawtchouk's numbers. -/
def kraw (q n j w : Nat) : Int := sumZ (fun s => (if s % 2 = 1 then -1 else 1) * (((q - 1) ^ (j - s) * ch w s * ch (n - w) (j - s) : Nat) : Int)) (j + 1)
theorem kraw_sum2 : ∀ n : Nat, n < 8 → ∀ w : Nat, w < n + 1 → ∀ s : Nat, s < n + 1 → sumZ (fun j => kraw 2 n j w * (ch (n - j) s : Int)) (n + 1) = (((2 ^ (n - s) * ch (n - w) (n - s) : Nat)) : Int) := by decide +kernel
theorem kraw_sum3 : ∀ n : Nat, n < 8 → ∀ w : Nat, w < n + 1 → ∀ s : Nat, s < n + 1 → sumZ (fun j => kraw 3 n j w * (ch (n - j) s : Int)) (n + 1) = (((3 ^ (n - s) * ch (n - w) (n - s) : Nat)) : Int) := by decide +kernel
theorem kraw_sum5 : ∀ n : Nat, n < 8 → ∀ w : Nat, w < n + 1 → ∀ s : Nat, s < n + 1 → sumZ (fun j => kraw 5 n j w * (ch (n - j) s : Int)) (n + 1) = (((5 ^ (n - s) * ch (n - w) (n - s) : Nat)) : Int) := by decide +kernel
theorem kraw_sum7 : ∀ n : Nat, n < 8 → ∀ w : Nat, w < n + 1 → ∀ s : Nat, s < n + 1 → sumZ (fun j => kraw 7 n j w * (ch (n - j) s : Int)) (n + 1) = (((7 ^ (n - s) * ch (n - w) (n - s) : Nat)) : Int) := by decide +kernel
theorem kraw_sum {q n w s : Nat} (hq : Pr q) (hn : n ≤ 7) (hw : w ≤ n) (hs : s ≤ n) : sumZ (fun j => kraw q n j w * (ch (n - j) s : Int)) (n + 1) = (((q ^ (n - s) * ch (n - w) (n - s) : Nat)) : Int) := by
  rcases hq with rfl | rfl | rfl | rfl
  · exact kraw_sum2 n (by omega) w (by omega) s (by omega)
  · exact kraw_sum3 n (by omega) w (by omega) s (by omega)
  · exact kraw_sum5 n (by omega) w (by omega) s (by omega)
  · exact kraw_sum7 n (by omega) w (by omega) s (by omega)

section
variable {q : Nat} [NeZero q]
theorem CodeOk.dual_sum {n : Nat} {rows a : List (List Int)} (h : CodeOk q n rows) (hr : IsRed q n rows a) (h1 : 1 ≤ (nlTo q n a n).length) (h4 : (nlTo q n a n).length ≤ 4) {s : Nat} (hs : s ≤ n) :
    q ^ rows.length * rkSum q n (nlTo q n a n) s = q ^ (n - s) * rkSum q n rows (n - s) := by
  have hn := h.tab.n7
  have hl := h.dual_len hr
  unfold rkSum
  rw [← sumN_mul, ← sumN_mul, sumN_rev]
  refine sumN_congr (fun S hS => ?_)
  have hw := rest_wt n (by omega) S hS
  have hrt : 2 ^ n - 1 - S < 2 ^ n := rest_lt
  by_cases c : wtN S 7 = n - s
  · rw [if_pos c, if_pos (by omega)]
    have hd := h.dual_rk hr h1 h4 hrt
    rw [rest_rest hS, ← wt7 hn hrt] at hd
    have hle := rk_le h.tab.pr n rows S
    have hd2 := h.dual hr h1 h4
    have hle2 := rk_le hd2.tab.pr n (nlTo q n a n) (2 ^ n - 1 - S)
    rw [← Nat.pow_add, ← Nat.pow_add]
    congr 1
    omega
  · rw [if_neg c, if_neg (by omega)]; rfl
/-- The weights of the checks by those of the words. -/
theorem CodeOk.dual_wts {n : Nat} {rows a : List (List Int)} (h : CodeOk q n rows) (hr : IsRed q n rows a) (h1 : 1 ≤ (nlTo q n a n).length) (h4 : (nlTo q n a n).length ≤ 4) {j : Nat} (hj : j ≤ n) :
    (q ^ rows.length : Nat) * (wN q n (nlTo q n a n) (q ^ (nlTo q n a n).length) j : Int) = sumZ (fun w => (wN q n rows (q ^ rows.length) w : Int) * kraw q n j w) (n + 1) := by
  have hd := h.dual hr h1 h4
  have hn := h.tab.n7
  refine moments_unique (n := n) (a := fun j => (q ^ rows.length : Nat) * (wN q n (nlTo q n a n) (q ^ (nlTo q n a n).length) j : Int)) (b := fun j => sumZ (fun w => (wN q n rows (q ^ rows.length) w : Int) * kraw q n j w) (n + 1)) (fun s hs => ?_) j hj
  have e1 : sumZ (fun w => (q ^ rows.length : Nat) * (wN q n (nlTo q n a n) (q ^ (nlTo q n a n).length) w : Int) * (ch (n - w) s : Int)) (n + 1) = ((q ^ rows.length : Nat) : Int) * (rkSum q n (nlTo q n a n) s : Int) := by
    rw [← momentsZ hd.tab.pr hd.tab.good hn hs, ← sumZ_mul]
    exact sumZ_congr (fun i _ => by rw [Int.mul_assoc])
  have e2 : sumZ (fun j => sumZ (fun w => (wN q n rows (q ^ rows.length) w : Int) * kraw q n j w) (n + 1) * (ch (n - j) s : Int)) (n + 1) = ((q ^ (n - s) : Nat) : Int) * (rkSum q n rows (n - s) : Int) := by
    rw [← momentsZ h.tab.pr h.tab.good hn (show n - s ≤ n by omega), ← sumZ_mul]
    rw [sumZ_congr (g := fun j => sumZ (fun w => (wN q n rows (q ^ rows.length) w : Int) * kraw q n j w * (ch (n - j) s : Int)) (n + 1)) (fun j _ => by
      rw [Int.mul_comm, ← sumZ_mul]; exact sumZ_congr (fun w _ => Int.mul_comm _ _))]
    rw [sumZ_comm]
    refine sumZ_congr (fun w hw => ?_)
    rw [sumZ_congr (g := fun j => (wN q n rows (q ^ rows.length) w : Int) * (kraw q n j w * (ch (n - j) s : Int))) (fun j _ => Int.mul_assoc _ _ _), sumZ_mul, kraw_sum h.tab.pr hn (by omega) hs]
    rw [Int.natCast_mul, ← Int.mul_assoc, ← Int.mul_assoc, Int.mul_comm ((q ^ (n - s) : Nat) : Int)]
  show sumZ (fun w => (q ^ rows.length : Nat) * (wN q n (nlTo q n a n) (q ^ (nlTo q n a n).length) w : Int) * (ch (n - w) s : Int)) (n + 1) = sumZ (fun j => sumZ (fun w => (wN q n rows (q ^ rows.length) w : Int) * kraw q n j w) (n + 1) * (ch (n - j) s : Int)) (n + 1)
  rw [e1, e2, ← Int.natCast_mul, ← Int.natCast_mul, h.dual_sum hr h1 h4 hs]
end
end Go.Proofs.Ytmehgchmnnbkfaa
