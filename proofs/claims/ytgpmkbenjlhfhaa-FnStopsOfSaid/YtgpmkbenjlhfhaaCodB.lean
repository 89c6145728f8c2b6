/- What codes are told by the ranks of their columns: what may be lost, distances, best codes. Plain. -/
import Derived.Test.YtgpmkbenjlhfhaaCodA
import Derived.Test.YtgpmkbenjlhfhaaLossesOf
namespace Go.Proofs.Ytgpmkbenjlhfhaa
open Go.RowKit Mat
set_option linter.unusedVariables false

/-- A valid code, in plain words. -/
structure CodeOk (q : Nat) [NeZero q] (n : Nat) (rows : List (List Int)) : Prop where
  tab : TabOk q n rows
  r4 : rows.length ≤ 4
  ind : Ind (mat q rows) rows.length
theorem ValidC.code {q : Nat} [NeZero q] {rows : List (List Int)} (h : ValidC q rows) : CodeOk q (gr rows 0).length rows := ⟨vtB_ok h.1, h.2.1, h.ind⟩

section
variable {q : Nat} [NeZero q] {n : Nat} {rows : List (List Int)}

theorem CodeOk.rk_iff (h : CodeOk q n rows) {s r : Nat} : RkOf q rows s r ↔ rkN q n rows s = r := rkOf_iff h.tab.pr h.tab.good h.tab.cols
theorem CodeOk.mend_iff (h : CodeOk q n rows) {lost : Nat} : MendC q rows lost ↔ rkN q n rows (2 ^ n - 1 - lost) = rows.length := by
  unfold MendC
  rw [h.tab.cols, h.rk_iff]
theorem CodeOk.best_iff (h : CodeOk q n rows) : BestTo q rows (2 ^ n) ↔ ∀ S, S < 2 ^ n → wtN S n = rows.length → rkN q n rows S = rows.length := by
  unfold BestTo
  constructor
  · intro hb S hS hw; exact h.rk_iff.1 (hb S hS (by rw [wt7 h.tab.n7 hS]; exact hw))
  · intro hb S hS hw; exact h.rk_iff.2 (hb S hS (by rw [← wt7 h.tab.n7 hS]; exact hw))

theorem all_bit : ∀ n : Nat, n < 8 → ∀ i : Nat, i < n → bitN (2 ^ n - 1) i = 1 := by decide +kernel
theorem CodeOk.rk_all (h : CodeOk q n rows) : rkN q n rows (2 ^ n - 1) = rows.length := by
  refine (Dim.unique h.tab.pr (rkN_dim h.tab.pr n rows _) (⟨mskR q (2 ^ n - 1) n rows, ?_, fun i hi => Span.row _ hi, fun i hi => Span.row _ hi⟩))
  intro c hc
  refine h.ind c (fun k => ?_)
  rw [← hc k]
  refine sm_congr (fun i hi => ?_)
  unfold mskR pk
  by_cases hk : k < n
  · rw [if_pos (inS_iff.2 ⟨hk, all_bit n (by have := h.tab.n7; omega) k hk⟩)]
  · rw [if_neg (fun hh => hk (inS_iff.1 hh).1)]
    have : mat q rows i k = 0 := vec_ge (by rw [(h.tab.good i hi).1]; omega)
    rw [this]
theorem dg_zero (q e : Nat) : dg q 0 e = 0 := by unfold dg; simp
theorem msg_vec0 (q k i : Nat) : gi (msg q k 0) i = 0 := by
  by_cases h : i < k
  · rw [msg_get h, dg_zero]; rfl
  · exact gi_ge (by rw [msg_length]; omega)
theorem van0 (hq : Pr q) (hg : GoodRows q n rows) (s : Nat) : VanT q n rows s 0 := fun j hj _ => by
  refine (vec_zero (wordT_good hq hg 0)).1 ?_
  rw [wordT_vec hg]
  refine sm_zero (fun i hi => ?_)
  have : vec q (msg q rows.length 0) i = 0 := by unfold vec; rw [msg_vec0, phi_zero]
  rw [this]; grind
/-- Full rank: just the message of noughts vanishes. -/
theorem CodeOk.full_iff (h : CodeOk q n rows) {s : Nat} : rkN q n rows s = rows.length ↔ ∀ t, t < q ^ rows.length → VanT q n rows s t → t = 0 := by
  have hq := h.tab.pr.pos
  have hc := van_count h.tab.pr h.tab.good s
  have hpos : 0 < q ^ rows.length := Nat.pow_pos (by omega)
  have hz := van0 h.tab.pr h.tab.good s
  constructor
  · intro e t ht hv
    apply Classical.byContradiction; intro hne
    have := cntP_two (P := VanT q n rows s) (t := 0) (u := t) (by omega) hz hv ht
    rw [hc, e, Nat.sub_self, Nat.pow_zero] at this
    omega
  · intro hall
    have hle := rk_le h.tab.pr n rows s
    apply Classical.byContradiction; intro hne
    have h2 : 2 ≤ cntP (VanT q n rows s) (q ^ rows.length) := by
      rw [hc]
      have : q ^ 1 ≤ q ^ (rows.length - rkN q n rows s) := Nat.pow_le_pow_right (by omega) (by omega)
      rw [Nat.pow_one] at this
      omega
    obtain ⟨u, hu, hne2, hv⟩ := cntP_other h2 0
    exact hne2 (hall u hu hv)
theorem CodeOk.wt_zero (h : CodeOk q n rows) {t : Nat} (ht : t < q ^ rows.length) : wtT q n rows t = 0 ↔ t = 0 := by
  have hq := h.tab.pr
  constructor
  · intro h0
    exact h.full_iff.1 h.rk_all t ht (fun j hj _ => (hvTo_zero _ _).1 h0 j hj)
  · rintro rfl
    exact (hvTo_zero _ _).2 (fun j hj => van0 hq h.tab.good (2 ^ n - 1) j hj (all_bit n (by have := h.tab.n7; omega) j hj))
omit [NeZero q] in
theorem van_wt {t S : Nat} (hn : n ≤ 7) (hS : S < 2 ^ n) (hv : VanT q n rows S t) : wtT q n rows t + wtN S n ≤ n := by
  have h1 := zsN_wt (wordT q n rows t) n
  have h2 : ∀ k, k ≤ n → wtN S k ≤ wtN (zsN (wordT q n rows t) n) k := by
    intro k
    induction k with
    | zero => intro _; exact Nat.le_refl _
    | succ k ih =>
      intro hk
      have := ih (by omega)
      have b1 := bit01 S k
      have b2 := bit01 (zsN (wordT q n rows t) n) k
      have b3 := sub_bit.1 ((van_iff hS).1 hv) k
      simp only [wtN]; omega
  have := h2 n (Nat.le_refl _)
  unfold wtT
  omega
/-- Parts of any size. -/
theorem part_of : ∀ z : Nat, z < 128 → ∀ s : Nat, s < 8 → s ≤ wtN z 7 → ∃ S, S < 128 ∧ S &&& z = S ∧ wtN S 7 = s := by decide +kernel
theorem part_in {n z s : Nat} (hn : n ≤ 7) (hz : z < 2 ^ n) (hs : s ≤ wtN z n) : ∃ S, S < 2 ^ n ∧ Sub S z ∧ wtN S n = s := by
  have hp := pow_lt hn
  have hw := wtN_le z n
  obtain ⟨S, h1, h2, h3⟩ := part_of z (by omega) s (by omega) (by rw [wt7 hn hz]; exact hs)
  have hS : S < 2 ^ n := by have := Sub.le (a := S) (b := z) h2; omega
  exact ⟨S, hS, h2, by rw [← wt7 hn hS]; exact h3⟩
theorem all_wt : ∀ n : Nat, n < 8 → wtN (2 ^ n - 1) n = n := by decide +kernel
theorem set_of_size {n s : Nat} (hn : n ≤ 7) (hs : s ≤ n) : ∃ S, S < 2 ^ n ∧ wtN S n = s := by
  have := Nat.two_pow_pos n
  obtain ⟨S, h1, _, h3⟩ := part_in hn (z := 2 ^ n - 1) (by omega) (s := s) (by rw [all_wt n (by omega)]; exact hs)
  exact ⟨S, h1, h3⟩

/-- The least weight. -/
structure IsDist (q n : Nat) (rows : List (List Int)) (d : Nat) : Prop where
  some : ∃ t, 0 < t ∧ t < q ^ rows.length ∧ wtT q n rows t = d
  least : ∀ t, 0 < t → t < q ^ rows.length → d ≤ wtT q n rows t
theorem cntP_get {P : Nat → Prop} : ∀ {n : Nat}, 1 ≤ cntP P n → ∃ t, t < n ∧ P t
  | 0, h => by simp [cntP] at h
  | n + 1, h => by
    rw [cntP] at h
    by_cases c : P n
    · exact ⟨n, by omega, c⟩
    · rw [if_neg c] at h
      obtain ⟨t, ht, hp⟩ := cntP_get (n := n) (by omega)
      exact ⟨t, by omega, hp⟩
theorem CodeOk.dist (h : CodeOk q n rows) {d : Nat} (h1 : 1 ≤ d) (h2 : d ≤ n) (h3 : 0 < gi (wtsTo q n rows (q ^ rows.length)) d) (h4 : ∀ w, 1 ≤ w → w < d → gi (wtsTo q n rows (q ^ rows.length)) w ≤ 0) : IsDist q n rows d := by
  constructor
  · rw [wts_wN q n rows _ d h2] at h3
    obtain ⟨t, ht, hw⟩ := cntP_get (P := fun t => wtT q n rows t = d) (n := q ^ rows.length) (by unfold wN at h3; omega)
    refine ⟨t, ?_, ht, hw⟩
    apply Classical.byContradiction; intro hc
    have := (h.wt_zero ht).2 (by omega)
    omega
  · intro t ht1 ht
    apply Classical.byContradiction; intro hc
    have hw0 : wtT q n rows t ≠ 0 := fun e => by have := (h.wt_zero ht).1 e; omega
    have h5 := h4 (wtT q n rows t) (by omega) (by omega)
    have h6 := wtsTo_pos q n rows _ ht
    omega
theorem DistR.dist {q : Nat} [NeZero q] {rows : List (List Int)} {x : Int} (h : DistR q rows x) (hv : ValidC q rows) : ∃ d : Nat, x = d ∧ 1 ≤ d ∧ d ≤ (gr rows 0).length ∧ IsDist q (gr rows 0).length rows d := by
  obtain ⟨d, rfl, h1, h2, h3, h4⟩ := h.1 hv
  unfold wtsOf at h3 h4
  rw [Int.toNat_natCast] at h3 h4
  exact ⟨d, rfl, h1, h2, hv.code.dist h1 h2 h3 h4⟩

theorem CodeOk.dist_le (h : CodeOk q n rows) {d : Nat} (hd : IsDist q n rows d) : d + rows.length ≤ n + 1 := by
  have hk := h.tab.r1
  have hkn : rows.length ≤ n := by
    have h1 := rk_wt h.tab.pr h.tab.good (2 ^ n - 1)
    rw [h.rk_all, all_wt n (by have := h.tab.n7; omega)] at h1
    exact h1
  obtain ⟨S, hS, hw⟩ := set_of_size h.tab.n7 (n := n) (s := rows.length - 1) (by omega)
  have hr := rk_wt h.tab.pr h.tab.good S
  have hno : ¬ ∀ t, t < q ^ rows.length → VanT q n rows S t → t = 0 := fun hall => by
    have := h.full_iff.2 hall
    omega
  obtain ⟨t, ht⟩ := Classical.not_forall.1 hno
  obtain ⟨ht1, ht2⟩ := Classical.not_imp.1 ht
  obtain ⟨hv, hne⟩ := Classical.not_imp.1 ht2
  have h1 := van_wt h.tab.n7 hS hv
  have h2 := hd.least t (by omega) ht1
  omega
theorem CodeOk.cols (h : CodeOk q n rows) : rows.length ≤ n := by
  have h1 := rk_wt h.tab.pr h.tab.good (2 ^ n - 1)
  rw [h.rk_all, all_wt n (by have := h.tab.n7; omega)] at h1
  exact h1
/-- The bound is reached just by the best codes. -/
theorem CodeOk.dist_best (h : CodeOk q n rows) {d : Nat} (hd : IsDist q n rows d) : d + rows.length = n + 1 ↔ BestTo q rows (2 ^ n) := by
  rw [h.best_iff]
  constructor
  · intro e S hS hw
    refine h.full_iff.2 (fun t ht hv => ?_)
    apply Classical.byContradiction; intro hne
    have h1 := van_wt h.tab.n7 hS hv
    have h2 := hd.least t (by omega) ht
    omega
  · intro hb
    have hle := h.dist_le hd
    obtain ⟨t, ht0, ht, hw⟩ := hd.some
    have hz := zsN_wt (wordT q n rows t) n
    apply Classical.byContradiction; intro hc
    have hwt : hvTo (wordT q n rows t) n = d := hw
    obtain ⟨S, hS, hsub, hSw⟩ := part_in h.tab.n7 (setB_lt (fun j => decide (gi (wordT q n rows t) j = 0)) n) (s := rows.length) (by
      show rows.length ≤ wtN (zsN (wordT q n rows t) n) n
      omega)
    have := h.full_iff.1 (hb S hS hSw) t ht ((van_iff hS).2 hsub)
    omega

/-- What is not mendable holds the places of some word. -/
theorem CodeOk.mend_words (h : CodeOk q n rows) {lost : Nat} : MendC q rows lost ↔ ∀ t, t < q ^ rows.length → VanT q n rows (2 ^ n - 1 - lost) t → t = 0 := h.mend_iff.trans h.full_iff
theorem CodeOk.mend_mono (h : CodeOk q n rows) {lost lost' : Nat} (h1 : lost < 2 ^ n) (h2 : lost' < 2 ^ n) (hs : Sub lost' lost) (hm : MendC q rows lost) : MendC q rows lost' := by
  rw [h.mend_iff] at hm ⊢
  have hmo := rk_mono h.tab.pr h.tab.good (s := 2 ^ n - 1 - lost) (s' := 2 ^ n - 1 - lost') (fun j hj hb => by
    rw [bit_rest h.tab.n7 h1 hj] at hb
    rw [bit_rest h.tab.n7 h2 hj]
    have := sub_bit.1 hs j
    have := bit01 lost' j
    omega)
  have := rk_le h.tab.pr n rows (2 ^ n - 1 - lost')
  omega
end

section
variable {q : Nat} [NeZero q] {n : Nat} {rows : List (List Int)}
/-- The counts of what may be lost. -/
theorem loss_cnt {p : Int} {rows : List (List Int)} {n : Nat} (hn : n ≤ 7) : ∀ {k : Nat} {out : List Int}, k ≤ 2 ^ n → LossTo p rows n k out → ∀ t, t ≤ n → gi out t = (cntP (fun S => wtN S 7 = t ∧ MendC p rows S) k : Int)
  | 0, out, _, h, t, ht => by
    rw [show out = _ from h, gi_replicate]; rfl
  | k + 1, out, hk, h, t, ht => by
    obtain ⟨prev, hp, h⟩ := h
    have hb := hp.bounds
    have ih := loss_cnt hn (by omega) hp
    rw [cntP]
    rcases h with ⟨hm, rfl⟩ | ⟨hm, rfl⟩
    · rw [gi_set (by rw [hb.1]; omega)]
      by_cases e : wtN k 7 = t
      · rw [if_pos e, if_pos ⟨e, hm⟩, e, ih t ht]; omega
      · rw [if_neg e, if_neg (fun hh => e hh.1), ih t ht]; omega
    · rw [if_neg (fun hh => hm hh.2), ih t ht]; omega
theorem all_sub : ∀ n : Nat, n < 8 → ∀ S : Nat, S < 2 ^ n → S &&& (2 ^ n - 1) = S := by decide +kernel
theorem size_count {n t : Nat} (hn : n ≤ 7) (ht : t ≤ n) : cntP (fun S => wtN S 7 = t) (2 ^ n) = ch n t := by
  have := Nat.two_pow_pos n
  have h := parts hn (z := 2 ^ n - 1) (by omega) ht
  rw [all_wt n (by omega)] at h
  rw [← h]
  exact cntP_congr (fun S hS => ⟨fun e => ⟨all_sub n (by omega) S hS, e⟩, fun e => e.2⟩)
theorem cntP_eq {P Q : Nat → Prop} (hpq : ∀ i, P i → Q i) : ∀ {n : Nat}, cntP P n = cntP Q n ↔ ∀ i, i < n → Q i → P i
  | 0 => ⟨fun _ i hi => by omega, fun _ => rfl⟩
  | n + 1 => by
    have hle := cntP_mono (P := P) (Q := Q) (n := n) (fun i _ => hpq i)
    rw [cntP, cntP]
    constructor
    · intro h i hi hQ
      by_cases c : P n
      · rw [if_pos c, if_pos (hpq n c)] at h
        by_cases e : i = n
        · rw [e]; exact c
        · exact (cntP_eq hpq (n := n)).1 (by omega) i (by omega) hQ
      · rw [if_neg c] at h
        by_cases c2 : Q n
        · rw [if_pos c2] at h; omega
        · rw [if_neg c2] at h
          by_cases e : i = n
          · rw [e] at hQ; exact absurd hQ c2
          · exact (cntP_eq hpq (n := n)).1 (by omega) i (by omega) hQ
    · intro h
      rw [(cntP_eq hpq).2 (fun i hi => h i (by omega))]
      by_cases c : P n
      · rw [if_pos c, if_pos (hpq n c)]
      · rw [if_neg c, if_neg (fun c2 => c (h n (by omega) c2))]
/-- Fewer than the distance may be lost. -/
theorem CodeOk.loss_all (h : CodeOk q n rows) {d t : Nat} (hd : IsDist q n rows d) (ht : t ≤ n) : cntP (fun S => wtN S 7 = t ∧ MendC q rows S) (2 ^ n) = ch n t ↔ t < d := by
  have hn := h.tab.n7
  rw [← size_count hn ht, cntP_eq (fun i hi => hi.1)]
  constructor
  · intro hall
    apply Classical.byContradiction; intro hc
    obtain ⟨t0, ht0, ht1, hw⟩ := hd.some
    -- the zero places of a word of weight d, cut down to n - t of them
    have hz := zsN_wt (wordT q n rows t0) n
    have hwt : hvTo (wordT q n rows t0) n = d := hw
    obtain ⟨S, hS, hsub, hSw⟩ := part_in hn (setB_lt (fun j => decide (gi (wordT q n rows t0) j = 0)) n) (s := n - t) (by
      show n - t ≤ wtN (zsN (wordT q n rows t0) n) n
      omega)
    have hr := wt_rest hn hS
    have hm := (hall (2 ^ n - 1 - S) rest_lt (by rw [wt7 hn rest_lt]; omega)).2
    rw [h.mend_words, rest_rest hS] at hm
    have := hm t0 ht1 ((van_iff hS).2 hsub)
    omega
  · intro htd S hS hw
    refine ⟨hw, h.mend_words.2 (fun u hu hv => ?_)⟩
    apply Classical.byContradiction; intro hne
    have h1 := van_wt hn rest_lt hv
    have h2 := hd.least u (by omega) hu
    have h3 := wt_rest hn hS
    rw [wt7 hn hS] at hw
    omega
theorem CodeOk.loss_none (h : CodeOk q n rows) {t : Nat} (ht : n < t + rows.length) (htn : t ≤ n) : cntP (fun S => wtN S 7 = t ∧ MendC q rows S) (2 ^ n) = 0 := by
  refine cntP_none (fun S hS hh => ?_)
  have hm := h.mend_iff.1 hh.2
  have h1 := rk_wt h.tab.pr h.tab.good (2 ^ n - 1 - S)
  have h2 := wt_rest h.tab.n7 hS
  have h3 := hh.1
  rw [wt7 h.tab.n7 hS] at h3
  omega
end
end Go.Proofs.Ytgpmkbenjlhfhaa
