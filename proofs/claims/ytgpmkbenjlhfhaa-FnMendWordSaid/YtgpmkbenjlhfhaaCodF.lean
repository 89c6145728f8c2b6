/- How many messages fit a word of which some numbers are lost: none, or as many as what is left leaves open. Plain. -/
import Derived.Test.YtgpmkbenjlhfhaaCodQ
import Derived.Test.YtgpmkbenjlhfhaaLawF
namespace Go.Proofs.Ytgpmkbenjlhfhaa
open Go.RowKit Mat
set_option linter.unusedVariables false

theorem cntF_cntP (q n : Nat) (rows : List (List Int)) (kn : List Int) : ∀ T, cntF q n rows kn T = cntP (fun t => fitB (wordT q n rows t) kn n = true) T
  | 0 => rfl
  | T + 1 => by
    rw [cntF, cntP, cntF_cntP q n rows kn T]
    split <;> rfl
/-- The places that are left. -/
def leftN (kn : List Int) (n : Nat) : Nat := setB (fun j => decide (0 ≤ gi kn j)) n
theorem leftN_bit (kn : List Int) (n j : Nat) : bitN (leftN kn n) j = if j < n ∧ 0 ≤ gi kn j then 1 else 0 := by
  unfold leftN
  rw [setB_bit]
  simp only [decide_eq_true_eq]
theorem left_lost {kn : List Int} {n : Nat} (hn : n ≤ 7) : leftN kn n = 2 ^ n - 1 - lostN kn n := by
  refine set_ext (n := n) (setB_lt _ _) rest_lt (fun j hj => ?_)
  rw [leftN_bit]
  unfold lostN
  rw [bit_rest hn (setB_lt _ _) hj]
  rw [setB_bit]
  by_cases c : 0 ≤ gi kn j
  · rw [if_pos ⟨hj, c⟩, if_neg (fun h => by have := h.2; simp at this; omega)]
  · rw [if_neg (fun h => c h.2), if_pos ⟨hj, by simp; omega⟩]

section
variable {q : Nat} [NeZero q]
/-- Words with given numbers where some are left: the messages, counted. -/
theorem fit_count (hq : Pr q) {n : Nat} {rows : List (List Int)} (hg : GoodRows q n rows) {kn : List Int} (hk : ∀ i, i < n → -1 ≤ gi kn i ∧ gi kn i ≤ q - 1) :
    cntF q n rows kn (q ^ rows.length) = 0 ∨ cntF q n rows kn (q ^ rows.length) = q ^ (rows.length - rkN q n rows (leftN kn n)) := by
  rw [cntF_cntP]
  obtain ⟨b, hb⟩ : ∃ b : Nat → Fin q, b = fun j => if inS (leftN kn n) n j = true then vec q kn j else 0 := ⟨_, rfl⟩
  have hs := sol_count hq (mskR q (leftN kn n) n rows) rows.length _ (rkN_dim hq n rows (leftN kn n)) b
  have e : cntP (fun t => fitB (wordT q n rows t) kn n = true) (q ^ rows.length) = cntP (fun t => ∀ j, sm (fun i => vec q (msg q rows.length t) i * mskR q (leftN kn n) n rows i j) rows.length = b j) (q ^ rows.length) := by
    refine cntP_congr (fun t ht => ?_)
    have hw := wordT_good hq hg t
    rw [fitB_iff]
    constructor
    · intro hv j
      rw [msk_word hg, hb]
      show (if inS (leftN kn n) n j = true then _ else _) = (if inS (leftN kn n) n j = true then _ else _)
      split
      · rename_i hj
        rw [inS_iff, leftN_bit] at hj
        have h0 : 0 ≤ gi kn j := by
          apply Classical.byContradiction; intro c
          rw [if_neg (fun h => c h.2)] at hj
          have := hj.2; omega
        rcases hv j hj.1 with c | c
        · omega
        · unfold vec; rw [c]
      · rfl
    · intro hv j hj
      by_cases c : gi kn j < 0
      · exact .inl c
      · refine .inr ?_
        have := hv j
        have hin : inS (leftN kn n) n j = true := inS_iff.2 ⟨hj, by rw [leftN_bit, if_pos ⟨hj, by omega⟩]⟩
        rw [msk_word hg, hb] at this
        simp only [hin, if_true] at this
        have hr := hk j hj
        have h2 := hw.2 j hj
        exact (phi_eq_of_range (by omega) (by omega) (by omega) (by omega) this).symm
  rw [e]
  by_cases c : Span (mskR q (leftN kn n) n rows) rows.length b
  · exact .inr (hs.1 c)
  · exact .inl (hs.2 c)
/-- Just one fits the noughts that are left: nothing more is lost than may be. -/
theorem CodeOk.count_mend {n : Nat} {rows : List (List Int)} (h : CodeOk q n rows) {kn : List Int} (hk : ∀ i, i < n → -1 ≤ gi kn i ∧ gi kn i ≤ q - 1) (hc : cntF q n rows kn (q ^ rows.length) ≠ 0) : cntF q n rows kn (q ^ rows.length) = 1 ↔ MendC q rows (lostN kn n) := by
  have hq := h.tab.pr.pos
  have hle := rk_le h.tab.pr n rows (leftN kn n)
  rcases fit_count h.tab.pr h.tab.good hk with e | e
  · exact absurd e hc
  · rw [h.mend_iff, ← left_lost h.tab.n7, e]
    constructor
    · intro e1
      have := pow_inj (q := q) (a := rows.length - rkN q n rows (leftN kn n)) (b := 0) hq.1 (by rw [e1]; rfl)
      omega
    · intro e1; rw [e1, Nat.sub_self]; rfl
/-- Where all that is left is 0, the message of noughts fits. -/
theorem fit_zero (hq : Pr q) {n : Nat} {rows : List (List Int)} (hg : GoodRows q n rows) {kn : List Int} (hk : ∀ i, i < n → gi kn i = -1 ∨ gi kn i = 0) : cntF q n rows kn (q ^ rows.length) ≠ 0 := by
  have hpos : 0 < q ^ rows.length := Nat.pow_pos (by have := hq.pos; omega)
  have := cntF_pos (q := q) (n := n) (rows := rows) (kn := kn) (t := 0) (by
    rw [fitB_iff]
    intro i hi
    rcases hk i hi with c | c
    · exact .inl (by omega)
    · refine .inr ?_
      rw [c]
      refine ((vec_zero (wordT_good hq hg 0)).1 ?_).symm
      rw [wordT_vec hg]
      refine sm_zero (fun i hi => ?_)
      have : vec q (msg q rows.length 0) i = 0 := by unfold vec; rw [msg_vec0, phi_zero]
      rw [this]; grind) hpos
  omega
end
end Go.Proofs.Ytgpmkbenjlhfhaa
