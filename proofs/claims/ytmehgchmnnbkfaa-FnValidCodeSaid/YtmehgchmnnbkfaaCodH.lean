/- Helpers: which there are, that none is in another one, how many are apart. Plain. -/
import Derived.Test.YtmehgchmnnbkfaaCodQ
import Derived.Test.YtmehgchmnnbkfaaApartI
import Derived.Test.YtmehgchmnnbkfaaLawF
namespace Go.Proofs.Ytmehgchmnnbkfaa
open Go.RowKit Mat
set_option linter.unusedVariables false

theorem gi_app_lt {xs : List Int} {x : Int} {i : Nat} (h : i < xs.length) : gi (xs ++ [x]) i = gi xs i := by rw [gi_snoc, if_pos h]
theorem gi_app_eq {xs : List Int} {x : Int} : gi (xs ++ [x]) xs.length = x := by rw [gi_snoc, if_neg (by omega), if_pos rfl]

/-- What is taken, and in which order. -/
theorem LeastTo.at {N : Nat} {H : Nat → Prop} (hN : 0 < N) : ∀ {t : Nat} {a : List Int}, LeastTo N H t a → ∃ f : Nat → Nat, (∀ j, j < a.length → f j < t ∧ gi a j = ((f j % N : Nat) : Int) ∧ wtN (f j % N) 7 = f j / N ∧ H (f j % N)) ∧ (∀ i j, i < j → j < a.length → f i < f j ∧ ¬ Sub (f i % N) (f j % N)) ∧ ∀ u, u < t → wtN (u % N) 7 = u / N → H (u % N) → ∃ j, j < a.length ∧ Sub (f j % N) (u % N)
  | 0, a, h => by rw [show a = _ from h]; exact ⟨fun _ => 0, fun j hj => by simp at hj, fun i j _ hj => by simp at hj, fun u hu => by omega⟩
  | t + 1, a, h => by
    obtain ⟨prev, hp, h⟩ := h
    obtain ⟨f, h1, h2, h3⟩ := LeastTo.at hN hp
    rcases h with ⟨m, rfl⟩ | ⟨m, rfl⟩
    · refine ⟨fun j => if j < prev.length then f j else t, fun j hj => ?_, fun i j hij hj => ?_, fun u hu hw hH => ?_⟩
      · rw [List.length_append, List.length_singleton] at hj
        by_cases c : j < prev.length
        · simp only [if_pos c]; rw [gi_app_lt c]; have := h1 j c; exact ⟨by omega, this.2⟩
        · obtain rfl : j = prev.length := by omega
          simp only [if_neg c]; rw [gi_app_eq]; exact ⟨by omega, rfl, m.1, m.2.1⟩
      · rw [List.length_append, List.length_singleton] at hj
        have ci : i < prev.length := by omega
        simp only [if_pos ci]
        by_cases c : j < prev.length
        · simp only [if_pos c]; exact h2 i j hij c
        · simp only [if_neg c]
          refine ⟨(h1 i ci).1, ?_⟩
          have := m.2.2 i ci
          rw [(h1 i ci).2.1, Int.toNat_natCast] at this
          exact this
      · by_cases c : u = t
        · subst c
          exact ⟨prev.length, by simp, by simp only [Nat.lt_irrefl, if_false]; exact Sub.refl _⟩
        · obtain ⟨j, hj, hs⟩ := h3 u (by omega) hw hH
          exact ⟨j, by simp; omega, by simp only [if_pos hj]; exact hs⟩
    · refine ⟨f, fun j hj => by have := h1 j hj; exact ⟨by omega, this.2⟩, h2, fun u hu hw hH => ?_⟩
      by_cases c : u = t
      · subst c
        have : ¬ ∀ j, j < a.length → ¬ Sub (gi a j).toNat (u % N) := fun hno => m ⟨hw, hH, hno⟩
        obtain ⟨j, hj⟩ := Classical.not_forall.1 this
        obtain ⟨hj1, hj2⟩ := Classical.not_imp.1 hj
        refine ⟨j, hj1, ?_⟩
        have h5 := Classical.not_not.1 hj2
        rw [(h1 j hj1).2.1, Int.toNat_natCast] at h5
        exact h5
      · exact h3 u (by omega) hw hH

theorem sub_wt : ∀ s : Nat, s < 128 → ∀ t : Nat, t < 128 → s &&& t = s → wtN s 7 ≤ wtN t 7 ∧ (wtN t 7 ≤ wtN s 7 → s = t) := by decide +kernel
/-- The least sets, all sizes. -/
theorem LeastTo.sets {n : Nat} {H : Nat → Prop} (hn : n ≤ 7) {a : List Int} (h : LeastTo (2 ^ n) H ((n + 1) * 2 ^ n) a) :
    (∀ j, j < a.length → ∃ s : Nat, gi a j = s ∧ s < 2 ^ n ∧ H s) ∧ (∀ i j, i < a.length → j < a.length → i ≠ j → ¬ Sub (gi a i).toNat (gi a j).toNat) ∧ ∀ s, s < 2 ^ n → H s → ∃ j, j < a.length ∧ Sub (gi a j).toNat s := by
  have hN := Nat.two_pow_pos n
  have hp := pow_lt hn
  obtain ⟨f, h1, h2, h3⟩ := h.at hN
  have hlt : ∀ j, f j % 2 ^ n < 2 ^ n := fun j => Nat.mod_lt _ hN
  refine ⟨fun j hj => ⟨_, (h1 j hj).2.1, hlt j, (h1 j hj).2.2.2⟩, fun i j hi hj hne hs => ?_, fun s hs hH => ?_⟩
  · rw [(h1 i hi).2.1, (h1 j hj).2.1, Int.toNat_natCast, Int.toNat_natCast] at hs
    rcases Nat.lt_or_gt_of_ne hne with c | c
    · exact (h2 i j c hj).2 hs
    · have h4 := sub_wt _ (Nat.lt_of_lt_of_le (hlt i) hp) _ (Nat.lt_of_lt_of_le (hlt j) hp) hs
      have h5 := (h2 j i c hi).1
      have h6 : f j / 2 ^ n ≤ f i / 2 ^ n := Nat.div_le_div_right (by omega)
      rw [← (h1 i hi).2.2.1, ← (h1 j hj).2.2.1] at h6
      have h7 := h4.2 h6
      exact (h2 j i c hi).2 (by rw [h7]; exact Sub.refl _)
  · have hm : (wtN s 7 * 2 ^ n + s) % 2 ^ n = s := row_mod hs
    have hd : (wtN s 7 * 2 ^ n + s) / 2 ^ n = wtN s 7 := row_div hs
    obtain ⟨j, hj, hsub⟩ := h3 (wtN s 7 * 2 ^ n + s) (by
      have hw := wtN_le s n
      rw [← wt7 hn hs] at hw
      have : (wtN s 7 + 1) * 2 ^ n ≤ (n + 1) * 2 ^ n := Nat.mul_le_mul_right _ (by omega)
      rw [Nat.add_mul, Nat.one_mul] at this
      omega) (by rw [hm, hd]) (by rw [hm]; exact hH)
    rw [hm] at hsub
    exact ⟨j, hj, by rw [(h1 j hj).2.1, Int.toNat_natCast]; exact hsub⟩

/-! Sets apart. -/
theorem apt_pos : ∀ xs : List Int, 0 < apt xs 0 ↔ 0 < xs.length
  | [] => by simp [apt]
  | x :: xs => by
    unfold apt
    rw [if_pos (Nat.and_zero _), List.length_cons]
    omega
theorem wt_or : ∀ u : Nat, u < 128 → ∀ x : Nat, x < 128 → x &&& u = 0 → x ≠ 0 → wtN u 7 + 1 ≤ wtN (u ||| x) 7 := by decide +kernel
theorem wt_but : ∀ n : Nat, n < 8 → ∀ u : Nat, u < 2 ^ n → ∀ i : Nat, i < n → bitN u i = 0 → wtN u 7 + 1 ≤ n := by decide +kernel
theorem apt_bound {n i : Nat} (hn : n ≤ 7) (hi : i < n) : ∀ (xs : List Int) (u : Nat), (∀ j, j < xs.length → (gi xs j).toNat < 2 ^ n ∧ bitN (gi xs j).toNat i = 0 ∧ (gi xs j).toNat ≠ 0) → u < 2 ^ n → bitN u i = 0 → apt xs u + wtN u 7 + 1 ≤ n
  | [], u, _, hu, hb => by have := wt_but n (by omega) u hu i hi hb; unfold apt; omega
  | x :: xs, u, h, hu, hb => by
    have hp := pow_lt hn
    have h0 := h 0 (by simp)
    have e0 : gi (x :: xs) 0 = x := rfl
    rw [e0] at h0
    have hs : ∀ j, j < xs.length → (gi xs j).toNat < 2 ^ n ∧ bitN (gi xs j).toNat i = 0 ∧ (gi xs j).toNat ≠ 0 := fun j hj => by
      have := h (j + 1) (by simp; omega)
      exact this
    have h1 := apt_bound hn hi xs u hs hu hb
    unfold apt
    split
    · rename_i hc
      have hlt : u ||| x.toNat < 2 ^ n := Nat.or_lt_two_pow hu h0.1
      have hbit : bitN (u ||| x.toNat) i = 0 := by
        have h3 : (u ||| x.toNat).testBit i = false := by
          rw [Nat.testBit_or, testBit_bitN, testBit_bitN, hb, h0.2.1]; rfl
        rw [testBit_bitN] at h3
        simp at h3
        have := bit01 (u ||| x.toNat) i
        omega
      have h2 := apt_bound hn hi xs (u ||| x.toNat) hs hlt hbit
      have h4 := wt_or u (by omega) x.toNat (by omega) hc h0.2.2
      omega
    · exact h1

section
variable {q : Nat} [NeZero q] {n : Nat} {rows : List (List Int)}
/-- More columns help no less. -/
theorem HelpC.mono {s s' i : Nat} (h : HelpC q rows n s i) (hs : ∀ k, k < n → bitN s k = 1 → bitN s' k = 1) : HelpC q rows n s' i := by
  refine Span.mono h (fun j hj => ?_)
  obtain ⟨k, hk, hb, hw⟩ := sel_hit s n j hj
  have e1 : gr (colsTo rows s n) j = colN rows k := by rw [← hw]; exact cols_at hb hk
  have hb' := hs k hk hb
  have e2 := cols_at (rows := rows) hb' hk
  have hlt : wtN s' k < wtN s' n := by
    have : ∀ j, k + 1 ≤ j → wtN s' k < wtN s' j := by
      intro j
      induction j with
      | zero => intro h; omega
      | succ j ihj =>
        intro hj
        by_cases e2 : k = j
        · subst e2; simp only [wtN]; omega
        · have := ihj (by omega); simp only [wtN]; omega
    exact this n (by omega)
  have := Span.row (mat q (colsTo rows s' n)) hlt
  exact this.congr (fun c => by
    show vec q (gr (colsTo rows s n) j) c = vec q (gr (colsTo rows s' n) (wtN s' k)) c
    rw [e1, e2])
theorem or_rest : ∀ n : Nat, n < 8 → ∀ i : Nat, i < n → (2 ^ n - 1 - 2 ^ i) ||| 2 ^ i = 2 ^ n - 1 := by decide +kernel
theorem place_lt {n i : Nat} (h : i < n) : 2 ^ i < 2 ^ n := Nat.pow_lt_pow_right (by omega) h
theorem place_bit (i j : Nat) : bitN (2 ^ i) j = if j = i then 1 else 0 := by
  have h : (2 ^ i).testBit j = decide (bitN (2 ^ i) j = 1) := testBit_bitN _ _
  have h01 := bit01 (2 ^ i) j
  by_cases e : i = j
  · subst e
    rw [Nat.testBit_two_pow_self] at h
    simp at h
    rw [if_pos rfl]; exact h
  · rw [Nat.testBit_two_pow_of_ne e] at h
    simp at h
    rw [if_neg (fun c => e c.symm)]; omega
/-- There are helpers just if the column may be lost. -/
theorem CodeOk.help_mend (h : CodeOk q n rows) {i : Nat} (hi : i < n) : (∃ s, s < 2 ^ n ∧ HelpQ q rows n i s) ↔ MendC q rows (2 ^ i) := by
  have hn := h.tab.n7
  have hlt := place_lt hi
  have hp := pow_lt hn
  have hb0 : bitN (2 ^ n - 1 - 2 ^ i) i = 0 := by rw [bit_rest hn hlt hi, place_bit, if_pos rfl]
  have hst := rk_step h.tab.pr h.tab.good h.tab.cols hn (s := 2 ^ n - 1 - 2 ^ i) (Nat.lt_of_lt_of_le rest_lt hp) hi hb0
  rw [or_rest n (by omega) i hi, h.rk_all] at hst
  rw [h.mend_iff]
  constructor
  · rintro ⟨s, hs, hq⟩
    exact (hst.1 (hq.2.mono (fun k hk hb => by
      rw [bit_rest hn hlt hk, place_bit]
      by_cases e : k = i
      · subst e; rw [hq.1] at hb; omega
      · rw [if_neg e]))).symm
  · intro he
    exact ⟨_, rest_lt, hb0, hst.2 he.symm⟩

omit [NeZero q] in
theorem IsMendC.place (hv : ValidC q rows) {i : Nat} (hi : i < (gr rows 0).length) : IsMendC q rows ((2 ^ i : Nat) : Int) ↔ MendC q rows (2 ^ i) := by
  have hlt := place_lt hi
  unfold IsMendC
  rw [Int.toNat_natCast]
  exact ⟨fun h => h.2.2, fun h => ⟨hv, inB_iff.2 ⟨Int.natCast_nonneg _, Int.le_sub_one_of_lt (Int.ofNat_lt.2 hlt)⟩, h⟩⟩
end
end Go.Proofs.Ytmehgchmnnbkfaa
