/- Helpers: which there are, that none is in another one, how many are apart. Plain. Sets that stop: they join, words have them, and what is not mendable has one. Plain. Ranks of checks by ranks of rows, and weights of checks by weights of words. Plain. Near helpers cost distance. Plain. The best codes: the ranks of all sets, the weights, and their checks. Plain. The sums of the weights. Plain. -/
import Derived.Test.YtahgjfmdafhedaaCodQ
import Derived.Test.YtahgjfmdafhedaaApartI
import Derived.Test.YtahgjfmdafhedaaLawF
import Derived.Test.YtahgjfmdafhedaaStopsOf
import Derived.Test.YtahgjfmdafhedaaNearness
namespace Go.Proofs.Ytahgjfmdafhedaa
open Go.RowKit Mat
set_option linter.unusedVariables false

theorem gi_app_lt {xs : List Int} {x : Int} {i : Nat} (h : i < xs.length) : gi (xs ++ [x]) i = gi xs i := by rw [gi_snoc, if_pos h]
theorem gi_app_eq {xs : List Int} {x : Int} : gi (xs ++ [x]) xs.length = x := by rw [gi_snoc, if_neg (by omega), if_pos rfl]

/-- What is taken, and in which order. -/
theorem LeastTo.at {N : Nat} {H : Nat → Prop} (hN : 0 < N) : ∀ {t : Nat} {a : List Int}, LeastTo N H t a → ∃ f : Nat → Nat, (∀ j, j < a.length → f j < t ∧ gi a j = ((f j % N : Nat) : Int) ∧ wtN (f j % N) 7 = f j / N ∧ H (f j % N)) ∧ (∀ i j, i < j → j < a.length → f i < f j ∧ ¬ Sub (f i % N) (f j % N)) ∧ ∀ u, u < t → wtN (u % N) 7 = u / N → H (u % N) → ∃ j, j < a.length ∧ Sub (f j % N) (u % N)
  | 0, a, h => by rw [show a = _ from h]; exact ⟨fun _ => 0, fun j hj => by simp at hj, fun i j _ hj => by simp at hj, fun u hu => by omega⟩
  | t + 1, a, h => by
    obtain ⟨prev, hp, h⟩ := h
    obtain ⟨f, h1, h2, h3⟩ := LeastTo.at hN hp
    rcases h with ⟨m, rfl⟩ | ⟨m, rfl⟩
    · refine ⟨fun j => if j < prev.length then f j else t, fun j hj => ?_, fun i j hij hj => ?_, fun u hu hw hH => ?_⟩
      · rw [List.length_append, List.length_singleton] at hj
        by_cases c : j < prev.length
        · simp only [if_pos c]; rw [gi_app_lt c]; have := h1 j c; exact ⟨by omega, this.2⟩
        · obtain rfl : j = prev.length := by omega
          simp only [if_neg c]; rw [gi_app_eq]; exact ⟨by omega, rfl, m.1, m.2.1⟩
      · rw [List.length_append, List.length_singleton] at hj
        have ci : i < prev.length := by omega
        simp only [if_pos ci]
        by_cases c : j < prev.length
        · simp only [if_pos c]; exact h2 i j hij c
        · simp only [if_neg c]
          refine ⟨(h1 i ci).1, ?_⟩
          have := m.2.2 i ci
          rw [(h1 i ci).2.1, Int.toNat_natCast] at this
          exact this
      · by_cases c : u = t
        · subst c
          exact ⟨prev.length, by simp, by simp only [Nat.lt_irrefl, if_false]; exact Sub.refl _⟩
        · obtain ⟨j, hj, hs⟩ := h3 u (by omega) hw hH
          exact ⟨j, by simp; omega, by simp only [if_pos hj]; exact hs⟩
    · refine ⟨f, fun j hj => by have := h1 j hj; exact ⟨by omega, this.2⟩, h2, fun u hu hw hH => ?_⟩
      by_cases c : u = t
      · subst c
        have : ¬ ∀ j, j < a.length → ¬ Sub (gi a j).toNat (u % N) := fun hno => m ⟨hw, hH, hno⟩
        obtain ⟨j, hj⟩ := Classical.not_forall.1 this
        obtain ⟨hj1, hj2⟩ := Classical.not_imp.1 hj
        refine ⟨j, hj1, ?_⟩
        have h5 := Classical.not_not.1 hj2
        rw [(h1 j hj1).2.1, Int.toNat_natCast] at h5
        exact h5
      · exact h3 u (by omega) hw hH

theorem sub_wt : ∀ s : Nat, s < 128 → ∀ t : Nat, t < 128 → s &&& t = s → wtN s 7 ≤ wtN t 7 ∧ (wtN t 7 ≤ wtN s 7 → s = t) := by decide +kernel
/-- The least sets, all sizes. -/
theorem LeastTo.sets {n : Nat} {H : Nat → Prop} (hn : n ≤ 7) {a : List Int} (h : LeastTo (2 ^ n) H ((n + 1) * 2 ^ n) a) :
    (∀ j, j < a.length → ∃ s : Nat, gi a j = s ∧ s < 2 ^ n ∧ H s) ∧ (∀ i j, i < a.length → j < a.length → i ≠ j → ¬ Sub (gi a i).toNat (gi a j).toNat) ∧ ∀ s, s < 2 ^ n → H s → ∃ j, j < a.length ∧ Sub (gi a j).toNat s := by
  have hN := Nat.two_pow_pos n
  have hp := pow_lt hn
  obtain ⟨f, h1, h2, h3⟩ := h.at hN
  have hlt : ∀ j, f j % 2 ^ n < 2 ^ n := fun j => Nat.mod_lt _ hN
  refine ⟨fun j hj => ⟨_, (h1 j hj).2.1, hlt j, (h1 j hj).2.2.2⟩, fun i j hi hj hne hs => ?_, fun s hs hH => ?_⟩
  · rw [(h1 i hi).2.1, (h1 j hj).2.1, Int.toNat_natCast, Int.toNat_natCast] at hs
    rcases Nat.lt_or_gt_of_ne hne with c | c
    · exact (h2 i j c hj).2 hs
    · have h4 := sub_wt _ (Nat.lt_of_lt_of_le (hlt i) hp) _ (Nat.lt_of_lt_of_le (hlt j) hp) hs
      have h5 := (h2 j i c hi).1
      have h6 : f j / 2 ^ n ≤ f i / 2 ^ n := Nat.div_le_div_right (by omega)
      rw [← (h1 i hi).2.2.1, ← (h1 j hj).2.2.1] at h6
      have h7 := h4.2 h6
      exact (h2 j i c hi).2 (by rw [h7]; exact Sub.refl _)
  · have hm : (wtN s 7 * 2 ^ n + s) % 2 ^ n = s := row_mod hs
    have hd : (wtN s 7 * 2 ^ n + s) / 2 ^ n = wtN s 7 := row_div hs
    obtain ⟨j, hj, hsub⟩ := h3 (wtN s 7 * 2 ^ n + s) (by
      have hw := wtN_le s n
      rw [← wt7 hn hs] at hw
      have : (wtN s 7 + 1) * 2 ^ n ≤ (n + 1) * 2 ^ n := Nat.mul_le_mul_right _ (by omega)
      rw [Nat.add_mul, Nat.one_mul] at this
      omega) (by rw [hm, hd]) (by rw [hm]; exact hH)
    rw [hm] at hsub
    exact ⟨j, hj, by rw [(h1 j hj).2.1, Int.toNat_natCast]; exact hsub⟩

/-! Sets apart. -/
theorem apt_pos : ∀ xs : List Int, 0 < apt xs 0 ↔ 0 < xs.length
  | [] => by simp [apt]
  | x :: xs => by
    unfold apt
    rw [if_pos (Nat.and_zero _), List.length_cons]
    omega
theorem wt_or : ∀ u : Nat, u < 128 → ∀ x : Nat, x < 128 → x &&& u = 0 → x ≠ 0 → wtN u 7 + 1 ≤ wtN (u ||| x) 7 := by decide +kernel
theorem wt_but : ∀ n : Nat, n < 8 → ∀ u : Nat, u < 2 ^ n → ∀ i : Nat, i < n → bitN u i = 0 → wtN u 7 + 1 ≤ n := by decide +kernel
theorem apt_bound {n i : Nat} (hn : n ≤ 7) (hi : i < n) : ∀ (xs : List Int) (u : Nat), (∀ j, j < xs.length → (gi xs j).toNat < 2 ^ n ∧ bitN (gi xs j).toNat i = 0 ∧ (gi xs j).toNat ≠ 0) → u < 2 ^ n → bitN u i = 0 → apt xs u + wtN u 7 + 1 ≤ n
  | [], u, _, hu, hb => by have := wt_but n (by omega) u hu i hi hb; unfold apt; omega
  | x :: xs, u, h, hu, hb => by
    have hp := pow_lt hn
    have h0 := h 0 (by simp)
    have e0 : gi (x :: xs) 0 = x := rfl
    rw [e0] at h0
    have hs : ∀ j, j < xs.length → (gi xs j).toNat < 2 ^ n ∧ bitN (gi xs j).toNat i = 0 ∧ (gi xs j).toNat ≠ 0 := fun j hj => by
      have := h (j + 1) (by simp; omega)
      exact this
    have h1 := apt_bound hn hi xs u hs hu hb
    unfold apt
    split
    · rename_i hc
      have hlt : u ||| x.toNat < 2 ^ n := Nat.or_lt_two_pow hu h0.1
      have hbit : bitN (u ||| x.toNat) i = 0 := by
        have h3 : (u ||| x.toNat).testBit i = false := by
          rw [Nat.testBit_or, testBit_bitN, testBit_bitN, hb, h0.2.1]; rfl
        rw [testBit_bitN] at h3
        simp at h3
        have := bit01 (u ||| x.toNat) i
        omega
      have h2 := apt_bound hn hi xs (u ||| x.toNat) hs hlt hbit
      have h4 := wt_or u (by omega) x.toNat (by omega) hc h0.2.2
      omega
    · exact h1

section
variable {q : Nat} [NeZero q] {n : Nat} {rows : List (List Int)}
/-- More columns help no less. -/
theorem HelpC.mono {s s' i : Nat} (h : HelpC q rows n s i) (hs : ∀ k, k < n → bitN s k = 1 → bitN s' k = 1) : HelpC q rows n s' i := by
  refine Span.mono h (fun j hj => ?_)
  obtain ⟨k, hk, hb, hw⟩ := sel_hit s n j hj
  have e1 : gr (colsTo rows s n) j = colN rows k := by rw [← hw]; exact cols_at hb hk
  have hb' := hs k hk hb
  have e2 := cols_at (rows := rows) hb' hk
  have hlt : wtN s' k < wtN s' n := by
    have : ∀ j, k + 1 ≤ j → wtN s' k < wtN s' j := by
      intro j
      induction j with
      | zero => intro h; omega
      | succ j ihj =>
        intro hj
        by_cases e2 : k = j
        · subst e2; simp only [wtN]; omega
        · have := ihj (by omega); simp only [wtN]; omega
    exact this n (by omega)
  have := Span.row (mat q (colsTo rows s' n)) hlt
  exact this.congr (fun c => by
    show vec q (gr (colsTo rows s n) j) c = vec q (gr (colsTo rows s' n) (wtN s' k)) c
    rw [e1, e2])
theorem or_rest : ∀ n : Nat, n < 8 → ∀ i : Nat, i < n → (2 ^ n - 1 - 2 ^ i) ||| 2 ^ i = 2 ^ n - 1 := by decide +kernel
theorem place_lt {n i : Nat} (h : i < n) : 2 ^ i < 2 ^ n := Nat.pow_lt_pow_right (by omega) h
theorem place_bit (i j : Nat) : bitN (2 ^ i) j = if j = i then 1 else 0 := by
  have h : (2 ^ i).testBit j = decide (bitN (2 ^ i) j = 1) := testBit_bitN _ _
  have h01 := bit01 (2 ^ i) j
  by_cases e : i = j
  · subst e
    rw [Nat.testBit_two_pow_self] at h
    simp at h
    rw [if_pos rfl]; exact h
  · rw [Nat.testBit_two_pow_of_ne e] at h
    simp at h
    rw [if_neg (fun c => e c.symm)]; omega
/-- There are helpers just if the column may be lost. -/
theorem CodeOk.help_mend (h : CodeOk q n rows) {i : Nat} (hi : i < n) : (∃ s, s < 2 ^ n ∧ HelpQ q rows n i s) ↔ MendC q rows (2 ^ i) := by
  have hn := h.tab.n7
  have hlt := place_lt hi
  have hp := pow_lt hn
  have hb0 : bitN (2 ^ n - 1 - 2 ^ i) i = 0 := by rw [bit_rest hn hlt hi, place_bit, if_pos rfl]
  have hst := rk_step h.tab.pr h.tab.good h.tab.cols hn (s := 2 ^ n - 1 - 2 ^ i) (Nat.lt_of_lt_of_le rest_lt hp) hi hb0
  rw [or_rest n (by omega) i hi, h.rk_all] at hst
  rw [h.mend_iff]
  constructor
  · rintro ⟨s, hs, hq⟩
    exact (hst.1 (hq.2.mono (fun k hk hb => by
      rw [bit_rest hn hlt hk, place_bit]
      by_cases e : k = i
      · subst e; rw [hq.1] at hb; omega
      · rw [if_neg e]))).symm
  · intro he
    exact ⟨_, rest_lt, hb0, hst.2 he.symm⟩

omit [NeZero q] in
theorem IsMendC.place (hv : ValidC q rows) {i : Nat} (hi : i < (gr rows 0).length) : IsMendC q rows ((2 ^ i : Nat) : Int) ↔ MendC q rows (2 ^ i) := by
  have hlt := place_lt hi
  unfold IsMendC
  rw [Int.toNat_natCast]
  exact ⟨fun h => h.2.2, fun h => ⟨hv, inB_iff.2 ⟨Int.natCast_nonneg _, Int.le_sub_one_of_lt (Int.ofNat_lt.2 hlt)⟩, h⟩⟩
end
end Go.Proofs.Ytahgjfmdafhedaa

namespace Go.Proofs.Ytahgjfmdafhedaa
open Go.RowKit Mat
set_option linter.unusedVariables false

theorem StopsTo.mem {checks : List (List Int)} : ∀ {k : Nat} {a : List Int}, StopsTo checks k a → ∀ x, inL a x ↔ ∃ s : Nat, x = s ∧ s < k ∧ 1 ≤ s ∧ Stop checks s
  | 0, a, h, x => by
    rw [show a = _ from h]
    exact ⟨fun ⟨i, hi, _⟩ => by simp at hi, fun ⟨s, _, hs, _⟩ => by omega⟩
  | k + 1, a, h, x => by
    obtain ⟨prev, hp, h⟩ := h
    have ih := StopsTo.mem hp x
    rcases h with ⟨m, rfl⟩ | ⟨m, rfl⟩
    · constructor
      · rintro ⟨i, hi, he⟩
        rw [List.length_append, List.length_singleton] at hi
        rw [gi_snoc] at he
        by_cases c : i < prev.length
        · rw [if_pos c] at he
          obtain ⟨s, h1, h2, h3⟩ := ih.1 ⟨i, c, he⟩
          exact ⟨s, h1, by omega, h3⟩
        · rw [if_neg c, if_pos (by omega)] at he
          exact ⟨k, he.symm, by omega, m⟩
      · rintro ⟨s, h1, h2, h3⟩
        by_cases c : s = k
        · subst c
          exact ⟨prev.length, by simp, by rw [gi_snoc, if_neg (by omega), if_pos rfl]; exact h1.symm⟩
        · obtain ⟨i, hi, he⟩ := ih.2 ⟨s, h1, by omega, h3⟩
          exact ⟨i, by simp; omega, by rw [gi_snoc, if_pos hi]; exact he⟩
    · rw [ih]
      constructor
      · rintro ⟨s, h1, h2, h3⟩; exact ⟨s, h1, by omega, h3⟩
      · rintro ⟨s, h1, h2, h3⟩
        refine ⟨s, h1, ?_, h3⟩
        apply Classical.byContradiction; intro c
        obtain rfl : s = k := by omega
        exact m h3
theorem StopsTo.asc {checks : List (List Int)} : ∀ {k : Nat} {a : List Int}, StopsTo checks k a → AscL a
  | 0, a, h => by rw [show a = _ from h]; intro i hi; simp at hi
  | k + 1, a, h => by
    obtain ⟨prev, hp, h⟩ := h
    have ih := StopsTo.asc hp
    rcases h with ⟨m, rfl⟩ | ⟨m, rfl⟩
    · intro i hi
      rw [List.length_append, List.length_singleton] at hi
      rw [gi_snoc (i := i), if_pos (show i < prev.length by omega), gi_snoc (i := i + 1)]
      by_cases c : i + 1 < prev.length
      · rw [if_pos c]; exact ih i c
      · rw [if_neg c, if_pos (by omega)]
        obtain ⟨s, h1, h2, _⟩ := (hp.mem (gi prev i)).1 ⟨i, by omega, rfl⟩
        omega
    · exact ih
theorem StopsTo.at {checks : List (List Int)} {k : Nat} {a : List Int} (h : StopsTo checks k a) {i : Nat} (hi : i < a.length) : ∃ s : Nat, gi a i = s ∧ s < k ∧ 1 ≤ s ∧ Stop checks s := (h.mem _).1 ⟨i, hi, rfl⟩

/-- Sets that stop join. -/
theorem Stop.or {checks : List (List Int)} {s t : Nat} (hs : s < 128) (ht : t < 128) (h : Stop checks s) (h' : Stop checks t) : Stop checks (s ||| t) := fun i hi h1 => by
  have hlt : supN (gr checks i) &&& (s ||| t) < 128 := Nat.lt_of_le_of_lt Nat.and_le_right (Nat.or_lt_two_pow (n := 7) hs ht)
  obtain ⟨j, hj, he⟩ := one_place _ hlt h1
  have key : ∀ u, (∀ k, u.testBit k = true → (s ||| t).testBit k = true) → u.testBit j = true → supN (gr checks i) &&& u = 2 ^ j := fun u hu huj => by
    apply Nat.eq_of_testBit_eq
    intro k
    have hk : (supN (gr checks i) &&& (s ||| t)).testBit k = (2 ^ j).testBit k := by rw [he]
    rw [Nat.testBit_and] at hk ⊢
    by_cases e : j = k
    · subst e
      rw [Nat.testBit_two_pow_self] at hk ⊢
      rw [Bool.and_eq_true] at hk
      rw [hk.1, huj]; rfl
    · rw [Nat.testBit_two_pow_of_ne e] at hk ⊢
      cases huk : u.testBit k with
      | false => simp
      | true => rw [hu k huk] at hk; exact hk
  have hj2 : (s ||| t).testBit j = true := by
    have hk : (supN (gr checks i) &&& (s ||| t)).testBit j = (2 ^ j).testBit j := by rw [he]
    rw [Nat.testBit_and, Nat.testBit_two_pow_self, Bool.and_eq_true] at hk
    exact hk.2
  rw [Nat.testBit_or, Bool.or_eq_true] at hj2
  rcases hj2 with c | c
  · refine h i hi ?_
    rw [key s (fun k hk => by rw [Nat.testBit_or, hk]; rfl) c]; exact place_one j hj
  · refine h' i hi ?_
    rw [key t (fun k hk => by rw [Nat.testBit_or, hk, Bool.or_true]) c]; exact place_one j hj

theorem supTo_setB (x : List Int) : ∀ k, supTo x k = setB (fun j => decide (gi x j ≠ 0)) k
  | 0 => rfl
  | k + 1 => by
    unfold supTo setB
    rw [supTo_setB x k]
    by_cases c : gi x k = 0
    · simp [c]
    · simp [c]
theorem supTo_test (x : List Int) (k j : Nat) : (supTo x k).testBit j = true ↔ j < k ∧ gi x j ≠ 0 := by
  rw [supTo_setB, setB_test, Bool.and_eq_true, decide_eq_true_eq, decide_eq_true_eq]

section
variable {q : Nat} [NeZero q]
theorem fin_mul_ne (hq : Pr q) {a b : Fin q} (ha : a ≠ 0) (hb : b ≠ 0) : a * b ≠ 0 := fun h => by
  obtain ⟨c, hc⟩ := fin_inv hq ha
  apply hb
  have : b = (a * c) * b := by rw [hc]; grind
  rw [this]
  have : a * c * b = c * (a * b) := by grind
  rw [this, h]; grind
/-- The places of a word stop. -/
theorem word_stop {n : Nat} {rows checks : List (List Int)} (h : CodeOk q n rows) (hc : NulC q rows checks) (t : Nat) : Stop checks (supTo (wordT q n rows t) n) := fun i hi h1 => by
  have hn := h.tab.n7
  obtain ⟨a, hra, rfl⟩ := hc.at h.tab
  have hw := wordT_good h.tab.pr h.tab.good t
  have hg := nlTo_good h.tab.pr n a n i hi
  have hlt : supTo (wordT q n rows t) n < 128 := Nat.lt_of_lt_of_le (supTo_lt _ _) (pow_lt hn)
  obtain ⟨j, hj, he⟩ := one_place _ (Nat.lt_of_le_of_lt Nat.and_le_right hlt) h1
  have hbit : ∀ k, (supN (gr (nlTo q n a n) i) &&& supTo (wordT q n rows t) n).testBit k = true ↔ (k < n ∧ gi (gr (nlTo q n a n) i) k ≠ 0) ∧ k < n ∧ gi (wordT q n rows t) k ≠ 0 := fun k => by
    rw [Nat.testBit_and, Bool.and_eq_true, supTo_test]
    unfold supN
    rw [supTo_test, hg.1]
  rw [he] at hbit
  have hjj := (hbit j).1 (Nat.testBit_two_pow_self)
  have h0 : dt n (vec q (gr (nlTo q n a n) i)) (vec q (wordT q n rows t)) = 0 :=
    dt_span (R := mat q rows) (n := rows.length) ⟨_, fun k => wordT_vec h.tab.good t k⟩ (fun k hk => nulls_orth h.tab.pr hra hi hk)
  unfold dt at h0
  rw [sm_single j hjj.1.1 (fun k hk hne => by
    apply Classical.byContradiction; intro hc
    have h2 : gi (gr (nlTo q n a n) i) k ≠ 0 := fun e => hc (by rw [(vec_zero hg).2 e]; grind)
    have h3 : gi (wordT q n rows t) k ≠ 0 := fun e => hc (by rw [(vec_zero hw).2 e]; grind)
    have := (hbit k).2 ⟨⟨hk, h2⟩, hk, h3⟩
    rw [Nat.testBit_two_pow_of_ne (fun e => hne e.symm)] at this
    cases this)] at h0
  exact fin_mul_ne h.tab.pr (fun e => hjj.1.2 ((vec_zero hg).1 e)) (fun e => hjj.2.2 ((vec_zero hw).1 e)) h0
/-- What is not mendable has a set in it that stops. -/
theorem CodeOk.stop_in {n : Nat} {rows checks : List (List Int)} (h : CodeOk q n rows) (hc : NulC q rows checks) {lost : Nat} (hl : lost < 2 ^ n) (hm : ¬ MendC q rows lost) : ∃ s, 1 ≤ s ∧ s < 2 ^ n ∧ Sub s lost ∧ Stop checks s := by
  rw [h.mend_words] at hm
  obtain ⟨t, ht⟩ := Classical.not_forall.1 hm
  obtain ⟨ht1, ht2⟩ := Classical.not_imp.1 ht
  obtain ⟨hv, hne⟩ := Classical.not_imp.1 ht2
  have hw0 : wtT q n rows t ≠ 0 := fun e => hne ((h.wt_zero ht1).1 e)
  refine ⟨supTo (wordT q n rows t) n, ?_, supTo_lt _ _, ?_, word_stop h hc t⟩
  · apply Classical.byContradiction; intro c
    have e0 : supTo (wordT q n rows t) n = 0 := by omega
    refine hw0 ((hvTo_zero _ _).2 (fun j hj => ?_))
    apply Classical.byContradiction; intro c2
    have := (supTo_test _ n j).2 ⟨hj, c2⟩
    rw [e0] at this
    simp at this
  · refine Sub.mk (fun j hj => ?_)
    have h1 := (supTo_test _ n j).1 hj
    rw [testBit_bitN]
    have h2 := bit01 lost j
    have h3 : bitN lost j = 1 := by
      apply Classical.byContradiction; intro c
      exact h1.2 (hv j h1.1 (by rw [bit_rest h.tab.n7 hl h1.1]; omega))
    simp [h3]
theorem CodeOk.peel_mend {n : Nat} {rows checks : List (List Int)} (h : CodeOk q n rows) (hc : NulC q rows checks) {lost : Nat} (hl : lost < 2 ^ n) (hp : PeelR checks lost 0) : MendC q rows lost := by
  apply Classical.byContradiction; intro hm
  obtain ⟨s, h1, h2, h3, h4⟩ := h.stop_in hc hl hm
  have := (hp.2.2 s h3 h4).le
  omega
end
end Go.Proofs.Ytahgjfmdafhedaa

namespace Go.Proofs.Ytahgjfmdafhedaa
open Go.RowKit Mat
set_option linter.unusedVariables false

section
variable {q : Nat} [NeZero q]

/-! The same sums, the same ranks, the same weights. -/
theorem Dim.span_eq {R R' : Nat → Nat → Fin q} {m m' d : Nat} (h : Dim R m d) (hs : ∀ v, Span R m v ↔ Span R' m' v) : Dim R' m' d := by
  obtain ⟨B, b1, b2, b3⟩ := h
  exact ⟨B, b1, fun i hi => (hs _).1 (b2 i hi), fun i hi => ((hs _).2 (Span.row R' hi)).mono b3⟩
theorem msk_span {n : Nat} {rows rows' : List (List Int)} (h : ∀ i, i < rows.length → Span (mat q rows') rows'.length (mat q rows i)) (s : Nat) {v : Nat → Fin q} (hv : Span (mskR q s n rows) rows.length v) : Span (mskR q s n rows') rows'.length v :=
  hv.mono (fun i hi => Go.Proofs.Ytahgjfmdafhedaa.Span.pk (h i hi))
theorem rk_same (hq : Pr q) {n : Nat} {rows rows' : List (List Int)} (hs : ∀ v, Span (mat q rows) rows.length v ↔ Span (mat q rows') rows'.length v) (s : Nat) : rkN q n rows s = rkN q n rows' s :=
  ((rkN_dim hq n rows s).span_eq (fun v => ⟨msk_span (fun i hi => (hs _).1 (Span.row _ hi)) s, msk_span (fun i hi => (hs _).2 (Span.row _ hi)) s⟩)).unique hq (rkN_dim hq n rows' s)
theorem wts_same (hq : Pr q) {n : Nat} {rows rows' : List (List Int)} (hn : n ≤ 7) (hg : GoodRows q n rows) (hg' : GoodRows q n rows') (hl : rows'.length = rows.length) (hs : ∀ s, rkN q n rows s = rkN q n rows' s) : wtsTo q n rows (q ^ rows.length) = wtsTo q n rows' (q ^ rows'.length) := by
  have h := moments_unique (n := n) (a := fun w => (wN q n rows (q ^ rows.length) w : Int)) (b := fun w => (wN q n rows' (q ^ rows'.length) w : Int)) (fun s hs' => by
    rw [momentsZ hq hg hn hs', momentsZ hq hg' hn hs']
    unfold rkSum
    rw [hl]
    congr 1
    exact sumN_congr (fun S _ => by rw [hs S]))
  refine ext_gi (by rw [wtsTo_length, wtsTo_length]) (fun w hw => ?_)
  rw [wtsTo_length] at hw
  rw [wts_wN q n rows _ w (by omega), wts_wN q n rows' _ w (by omega)]
  exact h w (by omega)

/-- Reduced rows of a code are a code of the same weights. -/
theorem ValidC.plainW {rows out : List (List Int)} (hv : ValidC q rows) (hr : IsRed q (gr rows 0).length rows out) : ValidC q out ∧ out.length = rows.length ∧ wtsOf q out = wtsOf q rows := by
  have hq : Pr q := (vtB_ok hv.1).pr
  obtain ⟨_, h4, o, ho, hl⟩ := id hv
  obtain rfl : o = out := ho.unique ⟨q, _, rfl, hq, hr⟩
  have hto := (vtB_ok hv.1).of_red hr (by rw [hl]; exact hv.few.1)
  have h2 : RedOf q o o := ⟨q, _, rfl, hq, by rw [hto.cols]; exact hr.self⟩
  refine ⟨⟨hto.vtB, by omega, o, h2, rfl⟩, hl, ?_⟩
  unfold wtsOf
  rw [Int.toNat_natCast, hto.cols]
  exact (wts_same hq hv.code.tab.n7 (vtB_good hv.1) hto.good hl (fun s => rk_same hq hr.inv.span s)).symm

/-! Duality. -/
/-- One column more: at most one more of rank. -/
theorem rk_up {n : Nat} {rows : List (List Int)} (h : CodeOk q n rows) {s i : Nat} (hs : s < 2 ^ n) (hi : i < n) (hb : bitN s i = 0) : rkN q n rows (s ||| 2 ^ i) ≤ rkN q n rows s + 1 := by
  have hn := h.tab.n7
  have hp := pow_lt hn
  obtain ⟨B, b1, b2, b3⟩ := rkN_dim h.tab.pr n rows s
  obtain ⟨B', c1, c2, c3⟩ := rkN_dim h.tab.pr n rows (s ||| 2 ^ i)
  obtain ⟨U, hU⟩ : ∃ U : Nat → Nat → Fin q, U = fun j => if j < rkN q n rows s then B j else fun k => if k = i then 1 else 0 := ⟨_, rfl⟩
  have hUB : ∀ j, j < rkN q n rows s → U j = B j := fun j hj => by rw [hU]; simp only [if_pos hj]
  have hUe : U (rkN q n rows s) = fun k => if k = i then 1 else 0 := by rw [hU]; simp only [Nat.lt_irrefl, if_false]
  have hin : ∀ j, j < rkN q n rows s → Span U (rkN q n rows s + 1) (B j) := fun j hj => by
    have := Span.row U (m := rkN q n rows s + 1) (i := j) (by omega)
    rw [hUB j hj] at this; exact this
  have hlast : Span U (rkN q n rows s + 1) (fun k => if k = i then (1 : Fin q) else 0) := by
    have := Span.row U (m := rkN q n rows s + 1) (i := rkN q n rows s) (by omega)
    rw [hUe] at this; exact this
  refine dim_le h.tab.pr (S := U) (fun j hj => (c2 j hj).mono (fun r hr => ?_)) c1
  have e : ∀ k, mskR q (s ||| 2 ^ i) n rows r k = mskR q s n rows r k + mat q rows r i * (if k = i then 1 else 0) := fun k => by
    unfold mskR pk
    by_cases hk : k < n
    · have hob := or_bits s (by omega) i (by omega) k (by omega)
      by_cases e : k = i
      · subst e
        rw [if_pos rfl] at hob
        rw [if_pos (inS_iff.2 ⟨hk, hob⟩), if_neg (fun h => by have := (inS_iff.1 h).2; omega), if_pos rfl]; grind
      · rw [if_neg e] at hob
        rw [if_neg e]
        by_cases c : bitN s k = 1
        · rw [if_pos (inS_iff.2 ⟨hk, by omega⟩), if_pos (inS_iff.2 ⟨hk, c⟩)]; grind
        · rw [if_neg (fun h => by have := (inS_iff.1 h).2; omega), if_neg (fun h => c (inS_iff.1 h).2)]; grind
    · rw [if_neg (fun h => hk (inS_iff.1 h).1), if_neg (fun h => hk (inS_iff.1 h).1), if_neg (by omega)]; grind
  exact (((b3 r hr).mono hin).add (hlast.smul (mat q rows r i))).congr e

/-- What is no sum of some columns is told from them by a word. -/
theorem CodeOk.sep {n : Nat} {rows : List (List Int)} (h : CodeOk q n rows) {s i : Nat} (hs : s < 2 ^ n) (hi : i < n) (hb : bitN s i = 0) (hno : ¬ HelpC q rows n s i) : ∃ t, t < q ^ rows.length ∧ VanT q n rows s t ∧ gi (wordT q n rows t) i ≠ 0 := by
  have hn := h.tab.n7
  have hp := pow_lt hn
  have hq := h.tab.pr.pos
  have hst := rk_step h.tab.pr h.tab.good h.tab.cols hn (s := s) (by omega) hi hb
  have hm := rk_mono h.tab.pr h.tab.good (s := s) (s' := s ||| 2 ^ i) (fun j hj hbj => by
    have := or_bits s (by omega) i (by omega) j (by omega)
    rw [this]; split <;> omega)
  have hlt : rkN q n rows s < rkN q n rows (s ||| 2 ^ i) := by
    have : rkN q n rows (s ||| 2 ^ i) ≠ rkN q n rows s := fun e => hno (hst.2 e)
    omega
  apply Classical.byContradiction; intro hall
  have hc := cntP_mono (P := VanT q n rows s) (Q := VanT q n rows (s ||| 2 ^ i)) (n := q ^ rows.length) (fun t ht hv j hj hbj => by
    have hb2 := or_bits s (by omega) i (by omega) j (by omega)
    rw [hb2] at hbj
    by_cases e : j = i
    · subst e
      apply Classical.byContradiction; intro h0
      exact hall ⟨t, ht, hv, h0⟩
    · rw [if_neg e] at hbj; exact hv j hj hbj)
  rw [van_count h.tab.pr h.tab.good, van_count h.tab.pr h.tab.good] at hc
  have := pow_le_iff hq.1 hc
  have := rk_le h.tab.pr n rows (s ||| 2 ^ i)
  omega
theorem dual_orth {n : Nat} {rows a : List (List Int)} (h : CodeOk q n rows) (hr : IsRed q n rows a) (u t : Nat) : dt n (vec q (wordT q n (nlTo q n a n) u)) (vec q (wordT q n rows t)) = 0 := by
  refine dt_span (R := mat q rows) (n := rows.length) ⟨_, fun k => wordT_vec h.tab.good t k⟩ (fun k hk => ?_)
  rw [dt_comm]
  exact dt_span (R := mat q (nlTo q n a n)) (n := (nlTo q n a n).length) ⟨_, fun j => wordT_vec (nlTo_good h.tab.pr n a n) u j⟩ (fun i hi => by rw [dt_comm]; exact nulls_orth h.tab.pr hr hi hk)

theorem or_but1 : ∀ n : Nat, n < 8 → ∀ s : Nat, s < 2 ^ n → ∀ i : Nat, i < n → bitN s i = 0 → (2 ^ n - 1 - (s ||| 2 ^ i)) ||| 2 ^ i = 2 ^ n - 1 - s := by decide +kernel
theorem or_but2 : ∀ n : Nat, n < 8 → ∀ s : Nat, s < 2 ^ n → ∀ i : Nat, i < n → bitN s i = 0 → bitN (2 ^ n - 1 - (s ||| 2 ^ i)) i = 0 := by decide +kernel
theorem or_but3 : ∀ n : Nat, n < 8 → ∀ s : Nat, s < 2 ^ n → ∀ i : Nat, i < n → bitN s i = 0 → s ||| 2 ^ i < 2 ^ n := by decide +kernel
theorem or_but4 : ∀ n : Nat, n < 8 → ∀ s : Nat, s < 2 ^ n → ∀ i : Nat, i < n → bitN s i = 0 → wtN (s ||| 2 ^ i) n = wtN s n + 1 := by decide +kernel
theorem or_but (n : Nat) (hn : n < 8) (s : Nat) (hs : s < 2 ^ n) (i : Nat) (hi : i < n) (hb : bitN s i = 0) : ((2 ^ n - 1 - (s ||| 2 ^ i)) ||| 2 ^ i = 2 ^ n - 1 - s ∧ bitN (2 ^ n - 1 - (s ||| 2 ^ i)) i = 0) ∧ s ||| 2 ^ i < 2 ^ n ∧ wtN (s ||| 2 ^ i) n = wtN s n + 1 :=
  ⟨⟨or_but1 n hn s hs i hi hb, or_but2 n hn s hs i hi hb⟩, or_but3 n hn s hs i hi hb, or_but4 n hn s hs i hi hb⟩
/-- One column more: what the ranks lose and gain. -/
theorem CodeOk.dual_step {n : Nat} {rows a : List (List Int)} (h : CodeOk q n rows) (hr : IsRed q n rows a) (h1 : 1 ≤ (nlTo q n a n).length) (h4 : (nlTo q n a n).length ≤ 4) {s i : Nat} (hs : s < 2 ^ n) (hi : i < n) (hb : bitN s i = 0) :
    rkN q n rows (2 ^ n - 1 - s) + rkN q n (nlTo q n a n) (s ||| 2 ^ i) ≤ 1 + rkN q n rows (2 ^ n - 1 - (s ||| 2 ^ i)) + rkN q n (nlTo q n a n) s := by
  have hd := h.dual hr h1 h4
  have hn := h.tab.n7
  have hp := pow_lt hn
  have hob := or_but n (by omega) s hs i hi hb
  have hS : 2 ^ n - 1 - (s ||| 2 ^ i) < 2 ^ n := rest_lt
  have e1 := rk_step h.tab.pr h.tab.good h.tab.cols hn (s := 2 ^ n - 1 - (s ||| 2 ^ i)) (Nat.lt_of_lt_of_le hS hp) hi hob.1.2
  rw [hob.1.1] at e1
  have e2 := rk_step hd.tab.pr hd.tab.good hd.tab.cols hn (s := s) (by omega) hi hb
  have u1 := rk_up h (s := 2 ^ n - 1 - (s ||| 2 ^ i)) hS hi hob.1.2
  rw [hob.1.1] at u1
  have u2 := rk_up hd hs hi hb
  by_cases c1 : HelpC q rows n (2 ^ n - 1 - (s ||| 2 ^ i)) i
  · have := e1.1 c1; omega
  · by_cases c2 : HelpC q (nlTo q n a n) n s i
    · have := e2.1 c2; omega
    · exfalso
      obtain ⟨t, _, hv, ht⟩ := h.sep hS hi hob.1.2 c1
      obtain ⟨u, _, hu, hui⟩ := hd.sep hs hi hb c2
      have h0 := dual_orth h hr u t
      have hw := wordT_good h.tab.pr h.tab.good t
      have hwu := wordT_good hd.tab.pr hd.tab.good u
      unfold dt at h0
      rw [sm_single i hi (fun j hj hne => by
        rcases bit01 s j with c | c
        · have hbj : bitN (2 ^ n - 1 - (s ||| 2 ^ i)) j = 1 := by
            rw [bit_rest hn hob.2.1 hj, or_bits s (by omega) i (by omega) j (by omega), if_neg hne]; omega
          rw [(vec_zero hw).2 (hv j hj hbj)]; grind
        · rw [(vec_zero hwu).2 (hu j hj c)]; grind)] at h0
      exact fin_mul_ne h.tab.pr (fun e => hui ((vec_zero hwu).1 e)) (fun e => ht ((vec_zero hw).1 e)) h0
theorem wtz1 : ∀ n : Nat, n < 8 → ∀ s : Nat, s < 2 ^ n → wtN s n = n → s = 2 ^ n - 1 := by decide +kernel
theorem wtz2 : ∀ n : Nat, n < 8 → ∀ s : Nat, s < 2 ^ n → wtN s n < n → ∃ i, i < n ∧ bitN s i = 0 := by decide +kernel
theorem wtz3 : ∀ n : Nat, n < 8 → ∀ s : Nat, s < 2 ^ n → 0 < wtN s n → ∃ i, i < n ∧ bitN s i = 1 := by decide +kernel
theorem wtz4 : ∀ n : Nat, n < 8 → ∀ s : Nat, s < 2 ^ n → wtN s n = 0 → s = 0 := by decide +kernel
theorem wtz5 : ∀ s : Nat, s < 128 → ∀ i : Nat, i < 7 → bitN s i = 1 → bitN (s - 2 ^ i) i = 0 := by decide +kernel
theorem wtz6 : ∀ s : Nat, s < 128 → ∀ i : Nat, i < 7 → bitN s i = 1 → (s - 2 ^ i) ||| 2 ^ i = s := by decide +kernel
theorem wt_zero_set (n : Nat) (hn : n < 8) (s : Nat) (hs : s < 2 ^ n) : (wtN s n = n → s = 2 ^ n - 1) ∧ (wtN s n < n → ∃ i, i < n ∧ bitN s i = 0) ∧ (0 < wtN s n → ∃ i, i < n ∧ bitN s i = 1 ∧ bitN (s - 2 ^ i) i = 0 ∧ (s - 2 ^ i) ||| 2 ^ i = s) ∧ (wtN s n = 0 → s = 0) := by
  have hp := pow_lt (show n ≤ 7 by omega)
  refine ⟨wtz1 n hn s hs, wtz2 n hn s hs, fun h => ?_, wtz4 n hn s hs⟩
  obtain ⟨i, hi, hb⟩ := wtz3 n hn s hs h
  exact ⟨i, hi, hb, wtz5 s (by omega) i (by omega) hb, wtz6 s (by omega) i (by omega) hb⟩
/-- Ranks of the checks by ranks of the rows. -/
theorem CodeOk.dual_rk {n : Nat} {rows a : List (List Int)} (h : CodeOk q n rows) (hr : IsRed q n rows a) (h1 : 1 ≤ (nlTo q n a n).length) (h4 : (nlTo q n a n).length ≤ 4) {s : Nat} (hs : s < 2 ^ n) :
    wtN s n + rkN q n rows (2 ^ n - 1 - s) = rows.length + rkN q n (nlTo q n a n) s := by
  have hd := h.dual hr h1 h4
  have hn := h.tab.n7
  have hl := h.dual_len hr
  have hN := Nat.two_pow_pos n
  have h00 : rkN q n rows 0 = 0 := by have := rk_wt h.tab.pr h.tab.good 0; rw [wtN_zero] at this; omega
  have h0d : rkN q n (nlTo q n a n) 0 = 0 := by have := rk_wt hd.tab.pr hd.tab.good 0; rw [wtN_zero] at this; omega
  -- up: from none
  have lower : ∀ m s, s < 2 ^ n → wtN s n = m → rows.length + rkN q n (nlTo q n a n) s ≤ wtN s n + rkN q n rows (2 ^ n - 1 - s) := by
    intro m
    induction m with
    | zero =>
      intro s hs hw
      obtain rfl := (wt_zero_set n (by omega) s hs).2.2.2 hw
      rw [h0d, wtN_zero, Nat.sub_zero, h.rk_all]; omega
    | succ m ih =>
      intro s hs hw
      obtain ⟨i, hi, hb, hb0, he⟩ := (wt_zero_set n (by omega) s hs).2.2.1 (by omega)
      have hs0 : s - 2 ^ i < 2 ^ n := Nat.lt_of_le_of_lt (Nat.sub_le _ _) hs
      have hob := or_but n (by omega) (s - 2 ^ i) hs0 i hi hb0
      rw [he] at hob
      have hst := h.dual_step hr h1 h4 hs0 hi hb0
      rw [he] at hst
      have := ih (s - 2 ^ i) hs0 (by omega)
      omega
  have upper : ∀ m s, s < 2 ^ n → n = wtN s n + m → wtN s n + rkN q n rows (2 ^ n - 1 - s) ≤ rows.length + rkN q n (nlTo q n a n) s := by
    intro m
    induction m with
    | zero =>
      intro s hs hw
      obtain rfl := (wt_zero_set n (by omega) s hs).1 (by omega)
      rw [Nat.sub_self, h00, hd.rk_all]; omega
    | succ m ih =>
      intro s hs hw
      obtain ⟨i, hi, hb⟩ := (wt_zero_set n (by omega) s hs).2.1 (by omega)
      have hob := or_but n (by omega) s hs i hi hb
      have hst := h.dual_step hr h1 h4 hs hi hb
      have := ih (s ||| 2 ^ i) hob.2.1 (by omega)
      omega
  have hw := wtN_le s n
  have l := lower _ s hs rfl
  have u := upper (n - wtN s n) s hs (by omega)
  omega
end

/-! Weights of checks. -/
theorem sumN_rev (f : Nat → Nat) : ∀ n, sumN f n = sumN (fun i => f (n - 1 - i)) n
  | 0 => rfl
  | n + 1 => by
    have key : ∀ (g : Nat → Nat) m, sumN g (m + 1) = g 0 + sumN (fun i => g (i + 1)) m := by
      intro g m
      induction m with
      | zero => simp [sumN]
      | succ m ih => rw [sumN, ih, sumN]; omega
    rw [sumN, sumN_rev f n, key (fun i => f (n + 1 - 1 - i)) n]
    rw [sumN_congr (f := fun i => f (n - 1 - i)) (g := fun i => f (n + 1 - 1 - (i + 1))) (fun i hi => by congr 1; omega)]
    have : n + 1 - 1 - 0 = n := by omega
    rw [this]; omega
/-- Krawtchouk's numbers. -/
def kraw (q n j w : Nat) : Int := sumZ (fun s => (if s % 2 = 1 then -1 else 1) * (((q - 1) ^ (j - s) * ch w s * ch (n - w) (j - s) : Nat) : Int)) (j + 1)
theorem kraw_sum2 : ∀ n : Nat, n < 8 → ∀ w : Nat, w < n + 1 → ∀ s : Nat, s < n + 1 → sumZ (fun j => kraw 2 n j w * (ch (n - j) s : Int)) (n + 1) = (((2 ^ (n - s) * ch (n - w) (n - s) : Nat)) : Int) := by decide +kernel
theorem kraw_sum3 : ∀ n : Nat, n < 8 → ∀ w : Nat, w < n + 1 → ∀ s : Nat, s < n + 1 → sumZ (fun j => kraw 3 n j w * (ch (n - j) s : Int)) (n + 1) = (((3 ^ (n - s) * ch (n - w) (n - s) : Nat)) : Int) := by decide +kernel
theorem kraw_sum5 : ∀ n : Nat, n < 8 → ∀ w : Nat, w < n + 1 → ∀ s : Nat, s < n + 1 → sumZ (fun j => kraw 5 n j w * (ch (n - j) s : Int)) (n + 1) = (((5 ^ (n - s) * ch (n - w) (n - s) : Nat)) : Int) := by decide +kernel
theorem kraw_sum7 : ∀ n : Nat, n < 8 → ∀ w : Nat, w < n + 1 → ∀ s : Nat, s < n + 1 → sumZ (fun j => kraw 7 n j w * (ch (n - j) s : Int)) (n + 1) = (((7 ^ (n - s) * ch (n - w) (n - s) : Nat)) : Int) := by decide +kernel
theorem kraw_sum {q n w s : Nat} (hq : Pr q) (hn : n ≤ 7) (hw : w ≤ n) (hs : s ≤ n) : sumZ (fun j => kraw q n j w * (ch (n - j) s : Int)) (n + 1) = (((q ^ (n - s) * ch (n - w) (n - s) : Nat)) : Int) := by
  rcases hq with rfl | rfl | rfl | rfl
  · exact kraw_sum2 n (by omega) w (by omega) s (by omega)
  · exact kraw_sum3 n (by omega) w (by omega) s (by omega)
  · exact kraw_sum5 n (by omega) w (by omega) s (by omega)
  · exact kraw_sum7 n (by omega) w (by omega) s (by omega)

section
variable {q : Nat} [NeZero q]
theorem CodeOk.dual_sum {n : Nat} {rows a : List (List Int)} (h : CodeOk q n rows) (hr : IsRed q n rows a) (h1 : 1 ≤ (nlTo q n a n).length) (h4 : (nlTo q n a n).length ≤ 4) {s : Nat} (hs : s ≤ n) :
    q ^ rows.length * rkSum q n (nlTo q n a n) s = q ^ (n - s) * rkSum q n rows (n - s) := by
  have hn := h.tab.n7
  have hl := h.dual_len hr
  unfold rkSum
  rw [← sumN_mul, ← sumN_mul, sumN_rev]
  refine sumN_congr (fun S hS => ?_)
  have hw := rest_wt n (by omega) S hS
  have hrt : 2 ^ n - 1 - S < 2 ^ n := rest_lt
  by_cases c : wtN S 7 = n - s
  · rw [if_pos c, if_pos (by omega)]
    have hd := h.dual_rk hr h1 h4 hrt
    rw [rest_rest hS, ← wt7 hn hrt] at hd
    have hle := rk_le h.tab.pr n rows S
    have hd2 := h.dual hr h1 h4
    have hle2 := rk_le hd2.tab.pr n (nlTo q n a n) (2 ^ n - 1 - S)
    rw [← Nat.pow_add, ← Nat.pow_add]
    congr 1
    omega
  · rw [if_neg c, if_neg (by omega)]; rfl
/-- The weights of the checks by those of the words. -/
theorem CodeOk.dual_wts {n : Nat} {rows a : List (List Int)} (h : CodeOk q n rows) (hr : IsRed q n rows a) (h1 : 1 ≤ (nlTo q n a n).length) (h4 : (nlTo q n a n).length ≤ 4) {j : Nat} (hj : j ≤ n) :
    (q ^ rows.length : Nat) * (wN q n (nlTo q n a n) (q ^ (nlTo q n a n).length) j : Int) = sumZ (fun w => (wN q n rows (q ^ rows.length) w : Int) * kraw q n j w) (n + 1) := by
  have hd := h.dual hr h1 h4
  have hn := h.tab.n7
  refine moments_unique (n := n) (a := fun j => (q ^ rows.length : Nat) * (wN q n (nlTo q n a n) (q ^ (nlTo q n a n).length) j : Int)) (b := fun j => sumZ (fun w => (wN q n rows (q ^ rows.length) w : Int) * kraw q n j w) (n + 1)) (fun s hs => ?_) j hj
  have e1 : sumZ (fun w => (q ^ rows.length : Nat) * (wN q n (nlTo q n a n) (q ^ (nlTo q n a n).length) w : Int) * (ch (n - w) s : Int)) (n + 1) = ((q ^ rows.length : Nat) : Int) * (rkSum q n (nlTo q n a n) s : Int) := by
    rw [← momentsZ hd.tab.pr hd.tab.good hn hs, ← sumZ_mul]
    exact sumZ_congr (fun i _ => by rw [Int.mul_assoc])
  have e2 : sumZ (fun j => sumZ (fun w => (wN q n rows (q ^ rows.length) w : Int) * kraw q n j w) (n + 1) * (ch (n - j) s : Int)) (n + 1) = ((q ^ (n - s) : Nat) : Int) * (rkSum q n rows (n - s) : Int) := by
    rw [← momentsZ h.tab.pr h.tab.good hn (show n - s ≤ n by omega), ← sumZ_mul]
    rw [sumZ_congr (g := fun j => sumZ (fun w => (wN q n rows (q ^ rows.length) w : Int) * kraw q n j w * (ch (n - j) s : Int)) (n + 1)) (fun j _ => by
      rw [Int.mul_comm, ← sumZ_mul]; exact sumZ_congr (fun w _ => Int.mul_comm _ _))]
    rw [sumZ_comm]
    refine sumZ_congr (fun w hw => ?_)
    rw [sumZ_congr (g := fun j => (wN q n rows (q ^ rows.length) w : Int) * (kraw q n j w * (ch (n - j) s : Int))) (fun j _ => Int.mul_assoc _ _ _), sumZ_mul, kraw_sum h.tab.pr hn (by omega) hs]
    rw [Int.natCast_mul, ← Int.mul_assoc, ← Int.mul_assoc, Int.mul_comm ((q ^ (n - s) : Nat) : Int)]
  show sumZ (fun w => (q ^ rows.length : Nat) * (wN q n (nlTo q n a n) (q ^ (nlTo q n a n).length) w : Int) * (ch (n - w) s : Int)) (n + 1) = sumZ (fun j => sumZ (fun w => (wN q n rows (q ^ rows.length) w : Int) * kraw q n j w) (n + 1) * (ch (n - j) s : Int)) (n + 1)
  rw [e1, e2, ← Int.natCast_mul, ← Int.natCast_mul, h.dual_sum hr h1 h4 hs]
end
end Go.Proofs.Ytahgjfmdafhedaa

namespace Go.Proofs.Ytahgjfmdafhedaa
open Go.RowKit Mat
set_option linter.unusedVariables false

theorem sst1 : ∀ s : Nat, s < 128 → ∀ t : Nat, t < 128 → s &&& t = s → wtN t 7 = wtN s 7 → t = s := by decide +kernel
theorem sst2 : ∀ s : Nat, s < 128 → ∀ t : Nat, t < 128 → s &&& t = s → wtN s 7 < wtN t 7 → ∃ j, j < 7 ∧ bitN t j = 1 ∧ bitN s j = 0 := by decide +kernel
theorem sst3a : ∀ s : Nat, s < 128 → ∀ t : Nat, t < 128 → s &&& t = s → ∀ j : Nat, j < 7 → bitN t j = bitN s j + 1 → s &&& (t - 2 ^ j) = s := by decide +kernel
theorem sst3b : ∀ s : Nat, s < 128 → ∀ t : Nat, t < 128 → s &&& t = s → ∀ j : Nat, j < 7 → bitN t j = 1 → (s ||| 2 ^ j) &&& t = s ||| 2 ^ j := by decide +kernel
theorem sst3 (s : Nat) (hs : s < 128) (t : Nat) (ht : t < 128) (h : s &&& t = s) (j : Nat) (hj : j < 7) (h1 : bitN t j = 1) (h0 : bitN s j = 0) : s &&& (t - 2 ^ j) = s ∧ (s ||| 2 ^ j) &&& t = s ||| 2 ^ j := by
  refine ⟨?_, sst3b s hs t ht h j hj h1⟩
  exact sst3a s hs t ht h j hj (by omega)
theorem sst4 : ∀ t : Nat, t < 128 → ∀ j : Nat, j < 7 → bitN t j = 1 → wtN (t - 2 ^ j) 7 + 1 = wtN t 7 := by decide +kernel
theorem sst5 : ∀ s : Nat, s < 128 → ∀ j : Nat, j < 7 → bitN s j = 0 → wtN (s ||| 2 ^ j) 7 = wtN s 7 + 1 := by decide +kernel
theorem sub_step (s : Nat) (hs : s < 128) (t : Nat) (ht : t < 128) (h : s &&& t = s) : (wtN t 7 = wtN s 7 → t = s) ∧ (wtN s 7 < wtN t 7 → ∃ j, j < 7 ∧ (bitN t j = 1 ∧ bitN s j = 0) ∧ (s &&& (t - 2 ^ j) = s ∧ bitN (t - 2 ^ j) j = 0 ∧ (t - 2 ^ j) ||| 2 ^ j = t ∧ wtN (t - 2 ^ j) 7 + 1 = wtN t 7) ∧ ((s ||| 2 ^ j) &&& t = s ||| 2 ^ j ∧ wtN (s ||| 2 ^ j) 7 = wtN s 7 + 1)) := by
  refine ⟨sst1 s hs t ht h, fun hw => ?_⟩
  obtain ⟨j, hj, h1, h0⟩ := sst2 s hs t ht h hw
  have h3 := sst3 s hs t ht h j hj h1 h0
  exact ⟨j, hj, ⟨h1, h0⟩, ⟨h3.1, wtz5 t ht j hj h1, wtz6 t ht j hj h1, sst4 t ht j hj h1⟩, h3.2, sst5 s hs j hj h0⟩
theorem or_parts : ∀ s : Nat, s < 128 → ∀ t : Nat, t < 128 → s &&& (s ||| t) = s ∧ t &&& (s ||| t) = t ∧ wtN (s ||| t) 7 ≤ wtN s 7 + wtN t 7 := by decide +kernel
theorem or_one : ∀ s : Nat, s < 128 → ∀ j : Nat, j < 7 → bitN s j = 0 → wtN (s ||| 2 ^ j) 7 = wtN s 7 + 1 ∧ s &&& (s ||| 2 ^ j) = s := by decide +kernel
theorem take_bits : ∀ s : Nat, s < 128 → ∀ m : Nat, m < 8 → (∀ j : Nat, j < 7 → bitN (s % 2 ^ m) j = if j < m then bitN s j else 0) ∧ (m < 7 → s % 2 ^ (m + 1) = if bitN s m = 1 then (s % 2 ^ m) ||| 2 ^ m else s % 2 ^ m) := by decide +kernel

section
variable {q : Nat} [NeZero q] {n : Nat} {rows : List (List Int)}
theorem CodeOk.mono7 (h : CodeOk q n rows) {s t : Nat} (hs : s < 2 ^ n) (hst : Sub s t) : rkN q n rows s ≤ rkN q n rows t := rk_mono h.tab.pr h.tab.good (fun j _ hb => sub_bit.1 hst j hb)
/-- Behind a part, the rank grows no more than the set. -/
theorem CodeOk.gap (h : CodeOk q n rows) : ∀ (m : Nat) {s t : Nat}, s < 2 ^ n → t < 2 ^ n → Sub s t → wtN t 7 = wtN s 7 + m → rkN q n rows t + wtN s 7 ≤ rkN q n rows s + wtN t 7 := by
  have hp := pow_lt h.tab.n7
  intro m
  induction m with
  | zero => intro s t hs ht hst hw; rw [(sub_step s (by omega) t (by omega) hst).1 (by omega)]; exact Nat.le_refl _
  | succ m ih =>
    intro s t hs ht hst hw
    obtain ⟨j, hj, ⟨hb1, hb0⟩, ⟨h1, h2, h3, h4⟩, _⟩ := (sub_step s (by omega) t (by omega) hst).2 (by omega)
    have hjn : j < n := by
      apply Classical.byContradiction; intro c
      rw [bit_ge ht (by omega)] at hb1; omega
    have := ih hs (show t - 2 ^ j < 2 ^ n from Nat.lt_of_le_of_lt (Nat.sub_le _ _) ht) h1 (by omega)
    have hu := rk_up h (s := t - 2 ^ j) (Nat.lt_of_le_of_lt (Nat.sub_le _ _) ht) hjn h2
    rw [h3] at hu
    omega
/-- Where all columns are sums of some, these have the rank of any more. -/
theorem CodeOk.closed (h : CodeOk q n rows) {s : Nat} (hs : s < 2 ^ n) (hc : ∀ j, j < n → bitN s j = 0 → HelpC q rows n s j) : ∀ (m : Nat) {t : Nat}, t < 2 ^ n → Sub s t → wtN t 7 = wtN s 7 + m → rkN q n rows t = rkN q n rows s := by
  have hn := h.tab.n7
  have hp := pow_lt hn
  intro m
  induction m with
  | zero => intro t ht hst hw; rw [(sub_step s (by omega) t (by omega) hst).1 (by omega)]
  | succ m ih =>
    intro t ht hst hw
    obtain ⟨j, hj, ⟨hb1, hb0⟩, ⟨h1, h2, h3, h4⟩, _⟩ := (sub_step s (by omega) t (by omega) hst).2 (by omega)
    have hjn : j < n := by
      apply Classical.byContradiction; intro c
      rw [bit_ge ht (by omega)] at hb1; omega
    have e := ih (show t - 2 ^ j < 2 ^ n from Nat.lt_of_le_of_lt (Nat.sub_le _ _) ht) h1 (by omega)
    have hh := (hc j hjn hb0).mono (s' := t - 2 ^ j) (fun k _ hb => sub_bit.1 (show Sub s (t - 2 ^ j) from h1) k hb)
    have := (rk_step h.tab.pr h.tab.good h.tab.cols hn (s := t - 2 ^ j) (Nat.lt_of_lt_of_le (Nat.lt_of_le_of_lt (Nat.sub_le _ _) ht) hp) hjn h2).1 hh
    rw [h3] at this
    omega
/-- A set between two with a rank between. -/
theorem CodeOk.between (h : CodeOk q n rows) : ∀ (m : Nat) {s t : Nat}, s < 2 ^ n → t < 2 ^ n → Sub s t → wtN t 7 = wtN s 7 + m → ∀ r, rkN q n rows s ≤ r → r ≤ rkN q n rows t → ∃ u, u < 2 ^ n ∧ rkN q n rows u = r ∧ wtN s 7 + r ≤ rkN q n rows s + wtN u 7 := by
  have hp := pow_lt h.tab.n7
  intro m
  induction m with
  | zero =>
    intro s t hs ht hst hw r h1 h2
    rw [(sub_step s (by omega) t (by omega) hst).1 (by omega)] at h2
    exact ⟨s, hs, by omega, by omega⟩
  | succ m ih =>
    intro s t hs ht hst hw r h1 h2
    by_cases c : rkN q n rows s = r
    · exact ⟨s, hs, c, by omega⟩
    · obtain ⟨j, hj, ⟨hb1, hb0⟩, _, ⟨h3, h4⟩⟩ := (sub_step s (by omega) t (by omega) hst).2 (by omega)
      have hjn : j < n := by
        apply Classical.byContradiction; intro c
        rw [bit_ge ht (by omega)] at hb1; omega
      have hu := rk_up h hs hjn hb0
      have hlt : s ||| 2 ^ j < 2 ^ n := by have := Sub.le (a := s ||| 2 ^ j) (b := t) h3; omega
      obtain ⟨u, u1, u2, u3⟩ := ih hlt ht h3 (by omega) r (by omega) h2
      exact ⟨u, u1, u2, by omega⟩
theorem ceil_le {k t e : Nat} (ht : 1 ≤ t) (h : k ≤ t * e + t) : (k + t - 1) / t ≤ e + 1 := by
  have h1 : (k + t - 1) / t < e + 2 := by
    refine Nat.div_lt_of_lt_mul ?_
    have : t * (e + 2) = t * e + t + t := by rw [Nat.mul_add, Nat.mul_two]; omega
    omega
  omega
/-- Many columns of too little rank. -/
theorem CodeOk.near_set (h : CodeOk q n rows) {t : Nat} (ht : 1 ≤ t) (hh : ∀ j, j < n → ∃ s, s < 2 ^ n ∧ bitN s j = 0 ∧ HelpC q rows n s j ∧ wtN s 7 ≤ t) :
    ∀ (m : Nat) {S e : Nat}, S < 2 ^ n → rkN q n rows S + m + 1 = rows.length → wtN S 7 = rkN q n rows S + e → rkN q n rows S ≤ t * e → ∃ T, T < 2 ^ n ∧ rkN q n rows T + 1 = rows.length ∧ rows.length + (rows.length + t - 1) / t ≤ wtN T 7 + 2 := by
  have hn := h.tab.n7
  have hp := pow_lt hn
  intro m
  induction m using Nat.strongRecOn with
  | _ m ih =>
    intro S e hS hm he hte
    by_cases hm0 : m = 0
    · exact ⟨S, hS, by omega, by have := ceil_le (k := rows.length) (e := e) ht (by omega); omega⟩
    · -- a column that is no sum of those in S
      have hex : ∃ j, j < n ∧ bitN S j = 0 ∧ ¬ HelpC q rows n S j := by
        apply Classical.byContradiction; intro hno
        have hall : 2 ^ n - 1 < 2 ^ n := by have := Nat.two_pow_pos n; omega
        have hw := (or_parts S (by omega) (2 ^ n - 1) (by omega))
        have hsub : Sub S (2 ^ n - 1) := all_sub n (by omega) S hS
        have hwl := sub_wt S (by omega) (2 ^ n - 1) (by omega) hsub
        have := h.closed hS (fun j hj hb => Classical.byContradiction (fun c => hno ⟨j, hj, hb, c⟩)) (wtN (2 ^ n - 1) 7 - wtN S 7) hall hsub (by omega)
        rw [h.rk_all] at this
        omega
      obtain ⟨j, hj, hb, hno⟩ := hex
      obtain ⟨R, hR, hRb, hRh, hRw⟩ := hh j hj
      have hop := or_parts S (by omega) R (by omega)
      have hT1 : S ||| R < 2 ^ n := Nat.or_lt_two_pow hS hR
      have hT1b : bitN (S ||| R) j = 0 := by
        have h3 : (S ||| R).testBit j = false := by rw [Nat.testBit_or, testBit_bitN, testBit_bitN, hb, hRb]; rfl
        rw [testBit_bitN] at h3
        simp at h3
        have := bit01 (S ||| R) j
        omega
      have hg := h.gap (wtN (S ||| R) 7 - wtN S 7) hS hT1 hop.1 (by have := sub_wt S (by omega) (S ||| R) (by omega) hop.1; omega)
      have hHT := hRh.mono (s' := S ||| R) (fun k _ hbk => sub_bit.1 (show Sub R (S ||| R) from hop.2.1) k hbk)
      have e1 := (rk_step h.tab.pr h.tab.good h.tab.cols hn (s := S ||| R) (by omega) hj hT1b).1 hHT
      have ho1 := or_one (S ||| R) (by omega) j (by omega) hT1b
      have hT : (S ||| R) ||| 2 ^ j < 2 ^ n := Nat.or_lt_two_pow hT1 (place_lt hj)
      have e2 : rkN q n rows (S ||| 2 ^ j) ≠ rkN q n rows S := fun c => hno ((rk_step h.tab.pr h.tab.good h.tab.cols hn (s := S) (by omega) hj hb).2 c)
      have ho2 := or_one S (by omega) j (by omega) hb
      have hSj : S ||| 2 ^ j < 2 ^ n := Nat.or_lt_two_pow hS (place_lt hj)
      have e3 := h.mono7 (s := S) (t := S ||| 2 ^ j) hS ho2.2
      have hsubT : Sub (S ||| 2 ^ j) ((S ||| R) ||| 2 ^ j) := Sub.mk (fun i hi => by
        rw [Nat.testBit_or, Bool.or_eq_true] at hi
        rw [Nat.testBit_or, Nat.testBit_or]
        rcases hi with c | c
        · rw [c]; rfl
        · rw [c]; simp)
      have e4 := h.mono7 hSj hsubT
      have hsubS : Sub S ((S ||| R) ||| 2 ^ j) := (show Sub S (S ||| 2 ^ j) from ho2.2).trans hsubT
      have hsw := sub_wt S (by omega) (S ||| R) (by omega) hop.1
      -- the gap of T
      obtain ⟨f, hf⟩ : ∃ f, wtN ((S ||| R) ||| 2 ^ j) 7 = rkN q n rows ((S ||| R) ||| 2 ^ j) + f := ⟨wtN ((S ||| R) ||| 2 ^ j) 7 - rkN q n rows ((S ||| R) ||| 2 ^ j), by omega⟩
      have hfe : e + 1 ≤ f := by omega
      have hrT : rkN q n rows ((S ||| R) ||| 2 ^ j) ≤ rkN q n rows S + t := by omega
      have hmul : t * (e + 1) ≤ t * f := Nat.mul_le_mul_left t hfe
      rw [Nat.mul_add, Nat.mul_one] at hmul
      have hle := rk_le h.tab.pr n rows ((S ||| R) ||| 2 ^ j)
      by_cases hfull : rkN q n rows ((S ||| R) ||| 2 ^ j) = rows.length
      · obtain ⟨u, u1, u2, u3⟩ := h.between (wtN ((S ||| R) ||| 2 ^ j) 7 - wtN S 7) hS hT hsubS (by omega) (rows.length - 1) (by omega) (by omega)
        refine ⟨u, u1, by omega, ?_⟩
        have := ceil_le (k := rows.length) (e := e) ht (by omega)
        omega
      · exact ih (rows.length - 1 - rkN q n rows ((S ||| R) ||| 2 ^ j)) (by omega) (S := (S ||| R) ||| 2 ^ j) (e := f) hT (by omega) hf (by omega)
/-- Near helpers cost distance. -/
theorem CodeOk.near_dist (h : CodeOk q n rows) {t d : Nat} (ht : 1 ≤ t) (hh : ∀ j, j < n → ∃ s, s < 2 ^ n ∧ bitN s j = 0 ∧ HelpC q rows n s j ∧ wtN s 7 ≤ t) (hd : IsDist q n rows d) : d + rows.length + (rows.length + t - 1) / t ≤ n + 2 := by
  have hN := Nat.two_pow_pos n
  have h00 : rkN q n rows 0 = 0 := by have := rk_wt h.tab.pr h.tab.good 0; rw [wtN_zero] at this; omega
  have hr1 := h.tab.r1
  obtain ⟨T, hT, hr, hw⟩ := h.near_set ht hh (rows.length - 1) (S := 0) (e := 0) hN (by omega) (by rw [h00, wtN_zero]) (by omega)
  have hno : ¬ ∀ t, t < q ^ rows.length → VanT q n rows T t → t = 0 := fun hall => by
    have := h.full_iff.2 hall
    omega
  obtain ⟨u, hu⟩ := Classical.not_forall.1 hno
  obtain ⟨hu1, hu2⟩ := Classical.not_imp.1 hu
  obtain ⟨hv, hne⟩ := Classical.not_imp.1 hu2
  have h1 := van_wt h.tab.n7 hT hv
  rw [wt7 h.tab.n7 hT] at hw
  have h2 := hd.least u (by omega) hu1
  omega

/-- A least helper is no larger than the rank. -/
theorem CodeOk.least_help (h : CodeOk q n rows) {s i : Nat} (hs : s < 2 ^ n) (hi : i < n) (hq : HelpQ q rows n i s) (hmin : ∀ u, u < 2 ^ n → HelpQ q rows n i u → wtN s 7 ≤ wtN u 7) : wtN s 7 ≤ rows.length := by
  have hn := h.tab.n7
  have hp := pow_lt hn
  by_cases hex : ∃ j, j < n ∧ bitN s j = 1 ∧ HelpC q rows n (s - 2 ^ j) j
  · exfalso
    obtain ⟨j, hj, hb, hH⟩ := hex
    obtain ⟨hsub, hb0, heq, hwt⟩ : (s - 2 ^ j) &&& s = s - 2 ^ j ∧ bitN (s - 2 ^ j) j = 0 ∧ (s - 2 ^ j) ||| 2 ^ j = s ∧ wtN (s - 2 ^ j) 7 + 1 = wtN s 7 := by
      have key : ∀ s : Nat, s < 128 → ∀ j : Nat, j < 7 → bitN s j = 1 → (s - 2 ^ j) &&& s = s - 2 ^ j ∧ bitN (s - 2 ^ j) j = 0 ∧ (s - 2 ^ j) ||| 2 ^ j = s ∧ wtN (s - 2 ^ j) 7 + 1 = wtN s 7 := by decide +kernel
      exact key s (by omega) j (by omega) hb
    have hs' : s - 2 ^ j < 2 ^ n := Nat.lt_of_le_of_lt (Nat.sub_le _ _) hs
    have e1 := (rk_step h.tab.pr h.tab.good h.tab.cols hn (s := s - 2 ^ j) (by omega) hj hb0).1 hH
    rw [heq] at e1
    have hbi : bitN (s - 2 ^ j) i = 0 := by
      have := sub_bit.1 (show Sub (s - 2 ^ j) s from hsub) i
      have := bit01 (s - 2 ^ j) i
      have := hq.1
      omega
    have e2 := (rk_step h.tab.pr h.tab.good h.tab.cols hn (s := s) (by omega) hi hq.1).1 hq.2
    have m1 := rk_mono h.tab.pr h.tab.good (s := (s - 2 ^ j) ||| 2 ^ i) (s' := s ||| 2 ^ i) (fun k hk hbk => by
      have o1 := or_bits (s - 2 ^ j) (by omega) i (by omega) k (by omega)
      have o2 := or_bits s (by omega) i (by omega) k (by omega)
      have := sub_bit.1 (show Sub (s - 2 ^ j) s from hsub) k
      rw [o2]
      rw [o1] at hbk
      by_cases e : k = i
      · rw [if_pos e]
      · rw [if_neg e] at hbk ⊢; exact this hbk)
    have m2 := rk_mono h.tab.pr h.tab.good (s := s - 2 ^ j) (s' := (s - 2 ^ j) ||| 2 ^ i) (fun k hk hbk => by
      rw [or_bits (s - 2 ^ j) (by omega) i (by omega) k (by omega)]
      split <;> omega)
    have hHi := (rk_step h.tab.pr h.tab.good h.tab.cols hn (s := s - 2 ^ j) (by omega) hi hbi).2 (by omega)
    have := hmin (s - 2 ^ j) hs' ⟨hbi, hHi⟩
    omega
  · -- all columns count: the rank is the size
    have key : ∀ m, m ≤ n → rkN q n rows (s % 2 ^ m) = wtN s m := by
      intro m
      induction m with
      | zero =>
        intro _
        have : s % 2 ^ 0 = 0 := Nat.mod_one s
        rw [this]
        have := rk_wt h.tab.pr h.tab.good 0
        rw [wtN_zero] at this
        simp only [wtN]; omega
      | succ m ih =>
        intro hm
        have ih := ih (by omega)
        have htb := take_bits s (by omega) m (by omega)
        have hst := htb.2 (by omega)
        rcases bit01 s m with c | c
        · rw [hst, if_neg (by omega), ih]; simp only [wtN]; omega
        · rw [hst, if_pos c]
          have hlt : s % 2 ^ m < 2 ^ n := by have := Nat.mod_le s (2 ^ m); omega
          have hb0 : bitN (s % 2 ^ m) m = 0 := by rw [htb.1 m (by omega), if_neg (by omega)]
          have hno : ¬ HelpC q rows n (s % 2 ^ m) m := fun hH => hex ⟨m, by omega, c, hH.mono (fun k hk hbk => by
            rw [htb.1 k (by omega)] at hbk
            have hkm : k < m := by
              apply Classical.byContradiction; intro c2
              rw [if_neg c2] at hbk; omega
            rw [if_pos hkm] at hbk
            have key2 : ∀ s : Nat, s < 128 → ∀ m : Nat, m < 7 → ∀ k : Nat, k < m → bitN s m = 1 → bitN (s - 2 ^ m) k = bitN s k := by decide +kernel
            rw [key2 s (by omega) m (by omega) k hkm c]; exact hbk)⟩
          have hne : rkN q n rows ((s % 2 ^ m) ||| 2 ^ m) ≠ rkN q n rows (s % 2 ^ m) := fun e => hno ((rk_step h.tab.pr h.tab.good h.tab.cols hn (s := s % 2 ^ m) (by omega) (by omega) hb0).2 e)
          have hu := rk_up h hlt (by omega) hb0
          have hmo := rk_mono h.tab.pr h.tab.good (s := s % 2 ^ m) (s' := (s % 2 ^ m) ||| 2 ^ m) (fun k hk hbk => by
            rw [or_bits (s % 2 ^ m) (by omega) m (by omega) k (by omega)]
            split <;> omega)
          simp only [wtN]
          omega
    have h1 := key n (Nat.le_refl _)
    rw [Nat.mod_eq_of_lt hs] at h1
    have := rk_le h.tab.pr n rows s
    rw [wt7 hn hs]
    omega

theorem HelpL.first {i : Nat} (hn : n ≤ 7) {out : List Int} (h : HelpL q rows n i out) (h0 : 0 < out.length) : ∃ s : Nat, gi out 0 = s ∧ s < 2 ^ n ∧ HelpQ q rows n i s ∧ ∀ u, u < 2 ^ n → HelpQ q rows n i u → wtN s 7 ≤ wtN u 7 := by
  have hN := Nat.two_pow_pos n
  obtain ⟨f, h1, h2, h3⟩ := LeastTo.at hN (show LeastTo (2 ^ n) (HelpQ q rows n i) ((n + 1) * 2 ^ n) out from h)
  have hp := pow_lt hn
  refine ⟨f 0 % 2 ^ n, (h1 0 h0).2.1, Nat.mod_lt _ hN, (h1 0 h0).2.2.2, fun u hu hq => ?_⟩
  have hm : (wtN u 7 * 2 ^ n + u) % 2 ^ n = u := row_mod hu
  have hd : (wtN u 7 * 2 ^ n + u) / 2 ^ n = wtN u 7 := row_div hu
  obtain ⟨j, hj, hsub⟩ := h3 (wtN u 7 * 2 ^ n + u) (by
    have hw := wtN_le u n
    rw [← wt7 hn hu] at hw
    have : (wtN u 7 + 1) * 2 ^ n ≤ (n + 1) * 2 ^ n := Nat.mul_le_mul_right _ (by omega)
    rw [Nat.add_mul, Nat.one_mul] at this
    omega) (by rw [hm, hd]) (by rw [hm]; exact hq)
  rw [hm] at hsub
  have hle : f 0 ≤ f j := by
    by_cases e : j = 0
    · rw [e]; exact Nat.le_refl _
    · exact Nat.le_of_lt (h2 0 j (by omega) hj).1
  have h6 : f 0 / 2 ^ n ≤ f j / 2 ^ n := Nat.div_le_div_right hle
  rw [← (h1 0 h0).2.2.1, ← (h1 j hj).2.2.1] at h6
  have := (sub_wt (f j % 2 ^ n) (Nat.lt_of_lt_of_le (Nat.mod_lt _ hN) hp) u (by omega) hsub).1
  omega
theorem NearTo.all (h : CodeOk q n rows) : ∀ {k t : Nat}, k ≤ n → NearTo q rows n k t → t ≤ rows.length ∧ ∀ j, j < k → ∃ s, s < 2 ^ n ∧ bitN s j = 0 ∧ HelpC q rows n s j ∧ wtN s 7 ≤ t
  | 0, t, _, hN => by rw [show t = 0 from hN]; exact ⟨Nat.zero_le _, fun j hj => by omega⟩
  | k + 1, t, hk, ⟨s, out, h1, h2, h3, h4⟩ => by
    obtain ⟨i1, i2⟩ := NearTo.all h (by omega) h1
    obtain ⟨u, hu, hu1, hu2, hu3⟩ := h2.first h.tab.n7 h3
    have hl := h.least_help hu1 (by omega) hu2 hu3
    rw [hu, Int.toNat_natCast] at h4
    refine ⟨by omega, fun j hj => ?_⟩
    by_cases e : j = k
    · subst e; exact ⟨u, hu1, hu2.1, hu2.2, by omega⟩
    · obtain ⟨x, x1, x2, x3, x4⟩ := i2 j (by omega)
      exact ⟨x, x1, x2, x3, by omega⟩
end
end Go.Proofs.Ytahgjfmdafhedaa

namespace Go.Proofs.Ytahgjfmdafhedaa
open Go.RowKit Mat
set_option linter.unusedVariables false

/-- How many words of a weight the best codes have. -/
def bwZ (p : Int) (n k w : Nat) : Int := if w = 0 then 1 else if w < n - k + 1 then 0 else (ch n w : Int) * sumZ (fun j => (if j % 2 = 1 then -1 else 1) * ((ch w j : Int) * (p ^ (w - (n - k + 1) - j + 1) - 1))) (w - (n - k + 1) + 1)
theorem bw_sum2 : ∀ n : Nat, n < 8 → ∀ k : Nat, k < n + 1 → 1 ≤ k → ∀ s : Nat, s < n + 1 → sumZ (fun w => bwZ 2 n k w * (ch (n - w) s : Int)) (n + 1) = ((ch n s * 2 ^ (k - s) : Nat) : Int) := by decide +kernel
theorem bw_sum3 : ∀ n : Nat, n < 8 → ∀ k : Nat, k < n + 1 → 1 ≤ k → ∀ s : Nat, s < n + 1 → sumZ (fun w => bwZ 3 n k w * (ch (n - w) s : Int)) (n + 1) = ((ch n s * 3 ^ (k - s) : Nat) : Int) := by decide +kernel
theorem bw_sum5 : ∀ n : Nat, n < 8 → ∀ k : Nat, k < n + 1 → 1 ≤ k → ∀ s : Nat, s < n + 1 → sumZ (fun w => bwZ 5 n k w * (ch (n - w) s : Int)) (n + 1) = ((ch n s * 5 ^ (k - s) : Nat) : Int) := by decide +kernel
theorem bw_sum7 : ∀ n : Nat, n < 8 → ∀ k : Nat, k < n + 1 → 1 ≤ k → ∀ s : Nat, s < n + 1 → sumZ (fun w => bwZ 7 n k w * (ch (n - w) s : Int)) (n + 1) = ((ch n s * 7 ^ (k - s) : Nat) : Int) := by decide +kernel
theorem bw_sum {q n k s : Nat} (hq : Pr q) (hn : n ≤ 7) (hk1 : 1 ≤ k) (hk : k ≤ n) (hs : s ≤ n) : sumZ (fun w => bwZ q n k w * (ch (n - w) s : Int)) (n + 1) = ((ch n s * q ^ (k - s) : Nat) : Int) := by
  rcases hq with rfl | rfl | rfl | rfl
  · exact bw_sum2 n (by omega) k (by omega) hk1 s (by omega)
  · exact bw_sum3 n (by omega) k (by omega) hk1 s (by omega)
  · exact bw_sum5 n (by omega) k (by omega) hk1 s (by omega)
  · exact bw_sum7 n (by omega) k (by omega) hk1 s (by omega)

section
variable {q : Nat} [NeZero q] {n : Nat} {rows : List (List Int)}
theorem rest_sub {n s t : Nat} (hn : n ≤ 7) (hs : s < 2 ^ n) (ht : t < 2 ^ n) (h : Sub t (2 ^ n - 1 - s)) : Sub s (2 ^ n - 1 - t) := by
  rw [sub_bit] at h ⊢
  intro i hi
  have hin : i < n := by
    apply Classical.byContradiction; intro c
    rw [bit_ge hs (by omega)] at hi; omega
  have h1 := h i
  rw [bit_rest hn hs hin] at h1
  rw [bit_rest hn ht hin]
  have := bit01 t i
  omega
/-- The ranks in a best code. -/
theorem CodeOk.best_rk (h : CodeOk q n rows) (hb : BestTo q rows (2 ^ n)) {S : Nat} (hS : S < 2 ^ n) : rkN q n rows S = min rows.length (wtN S 7) := by
  have hn := h.tab.n7
  have hp := pow_lt hn
  rw [h.best_iff] at hb
  have hle := rk_le h.tab.pr n rows S
  have hlw := rk_wt h.tab.pr h.tab.good S
  rw [← wt7 hn hS] at hlw
  have hkn := h.cols
  by_cases c : rows.length ≤ wtN S 7
  · obtain ⟨T, hT, hsub, hw⟩ := part_in hn hS (s := rows.length) (by rw [← wt7 hn hS]; exact c)
    have h1 := hb T hT hw
    have h2 := h.mono7 hT hsub
    omega
  · have hr := wt_rest hn hS
    rw [← wt7 hn hS] at hr
    obtain ⟨P, hP, hsub, hw⟩ := part_in hn (rest_lt (s := S)) (s := n - rows.length) (by omega)
    have hT : 2 ^ n - 1 - P < 2 ^ n := rest_lt
    have hr2 := wt_rest hn hP
    have h1 := hb (2 ^ n - 1 - P) hT (by omega)
    have hsT := rest_sub hn hS hP hsub
    have hwT := sub_wt S (by omega) (2 ^ n - 1 - P) (by omega) hsT
    have hwt := wt7 hn hT
    have h2 := h.gap (wtN (2 ^ n - 1 - P) 7 - wtN S 7) hS hT hsT (by omega)
    omega
theorem CodeOk.best_sum (h : CodeOk q n rows) (hb : BestTo q rows (2 ^ n)) {s : Nat} (hs : s ≤ n) : rkSum q n rows s = ch n s * q ^ (rows.length - s) := by
  classical
  have hn := h.tab.n7
  unfold rkSum
  rw [← size_count hn hs, cntP_sum, Nat.mul_comm, ← sumN_mul]
  refine sumN_congr (fun S hS => ?_)
  by_cases c : wtN S 7 = s
  · rw [if_pos c, if_pos c, h.best_rk hb hS, c, Nat.mul_one]
    congr 1; omega
  · rw [if_neg c, if_neg c]; rfl
/-- The best codes have known weights. -/
theorem best_wts (h : CodeOk q n rows) (hb : BestTo q rows (2 ^ n)) : wtsTo q n rows (q ^ rows.length) = tab (n + 1) (fun w => bwZ q n rows.length w) := by
  have hn := h.tab.n7
  have hm := moments_unique (n := n) (a := fun w => (wN q n rows (q ^ rows.length) w : Int)) (b := fun w => bwZ q n rows.length w) (fun s hs => by
    rw [momentsZ h.tab.pr h.tab.good hn hs, bw_sum h.tab.pr hn h.tab.r1 h.cols hs, h.best_sum hb hs])
  refine ext_gi (by rw [wtsTo_length, tab_length]) (fun w hw => ?_)
  rw [wtsTo_length] at hw
  rw [wts_wN q n rows _ w (by omega), tab_get hw]
  exact hm w (by omega)
/-- The checks of the best codes are best, and of no others. -/
theorem CodeOk.dual_best {a : List (List Int)} (h : CodeOk q n rows) (hr : IsRed q n rows a) (h1 : 1 ≤ (nlTo q n a n).length) (h4 : (nlTo q n a n).length ≤ 4) : BestTo q (nlTo q n a n) (2 ^ n) ↔ BestTo q rows (2 ^ n) := by
  have hd := h.dual hr h1 h4
  have hn := h.tab.n7
  have hl := h.dual_len hr
  rw [h.best_iff, hd.best_iff]
  constructor
  · intro hb S hS hw
    have hw2 := wt_rest hn hS
    have h2 := h.dual_rk hr h1 h4 (s := 2 ^ n - 1 - S) rest_lt
    rw [rest_rest hS, hb (2 ^ n - 1 - S) rest_lt (by omega)] at h2
    omega
  · intro hb S hS hw
    have hw2 := wt_rest hn hS
    have h2 := h.dual_rk hr h1 h4 hS
    rw [hb (2 ^ n - 1 - S) rest_lt (by omega)] at h2
    omega
end
end Go.Proofs.Ytahgjfmdafhedaa

namespace Go.Proofs.Ytahgjfmdafhedaa
open Go.RowKit Mat
set_option linter.unusedVariables false

section
variable {q : Nat} [NeZero q] {n : Nat} {rows : List (List Int)}
theorem wts_total (q n : Nat) (rows : List (List Int)) (T : Nat) : sumZ (fun i => gi (wtsTo q n rows T) i) (n + 1) = (T : Int) := by
  have h := weigh q n rows (fun _ => 1) T
  rw [sumN_const, Nat.mul_one] at h
  rw [sumZ_congr (g := fun w => ((wN q n rows T w * 1 : Nat) : Int)) (fun i hi => by rw [wts_wN q n rows T i (by omega), Nat.mul_one]), ← sumZ_nat, ← h]
theorem CodeOk.one_zero (h : CodeOk q n rows) : gi (wtsTo q n rows (q ^ rows.length)) 0 = 1 := by
  rw [wts_wN q n rows _ 0 (Nat.zero_le _)]
  have hc := van_count h.tab.pr h.tab.good (2 ^ n - 1)
  rw [h.rk_all, Nat.sub_self, Nat.pow_zero] at hc
  unfold wN
  rw [cntP_congr (Q := VanT q n rows (2 ^ n - 1)) (fun t _ => ?_), hc]; rfl
  show hvTo (wordT q n rows t) n = 0 ↔ _
  rw [hvTo_zero]
  exact ⟨fun h1 j hj _ => h1 j hj, fun h1 j hj => h1 j hj (all_bit n (by have := h.tab.n7; omega) j hj)⟩
theorem CodeOk.dual_law {a : List (List Int)} (h : CodeOk q n rows) (hr : IsRed q n rows a) (h1 : 1 ≤ (nlTo q n a n).length) (h4 : (nlTo q n a n).length ≤ 4) {j : Nat} (hj : j ≤ n) :
    gi (wtsTo q n (nlTo q n a n) (q ^ (nlTo q n a n).length)) j * ((q ^ rows.length : Nat) : Int) = sumZ (fun i => gi (wtsTo q n rows (q ^ rows.length)) i * kraw q n j i) (n + 1) := by
  rw [wts_wN q n _ _ j hj, Int.mul_comm, h.dual_wts hr h1 h4 hj]
  exact sumZ_congr (fun i hi => by rw [wts_wN q n rows _ i (by omega)])
end
end Go.Proofs.Ytahgjfmdafhedaa
