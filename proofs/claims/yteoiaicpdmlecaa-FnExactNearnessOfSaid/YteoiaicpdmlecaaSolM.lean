/- Factors with which rows add up to a goal, plain: what they are, that they are unique, how the program and the reference come to them. -/
import Derived.Test.YteoiaicpdmlecaaNullM
namespace Go.Proofs.Yteoiaicpdmlecaa
open Go.RowKit Mat
set_option linter.unusedVariables false

section
variable {p : Nat} [NeZero p]

theorem fin_inv (hp : Pr p) {a : Fin p} (h : a ≠ 0) : ∃ b : Fin p, a * b = 1 := by
  have e : phi p (a.val : Int) = a := by
    apply fin_ext_int
    rw [phi_val, Int.emod_eq_of_lt (by omega) (by have := a.isLt; omega)]
  have h1 : 1 ≤ (a.val : Int) := by
    apply Classical.byContradiction
    intro hc
    apply h
    rw [← e, show (a.val : Int) = 0 by omega, phi_zero]
  refine ⟨phi p (invZ p a.val), ?_⟩
  have := phi_inv hp h1 (by have := a.isLt; omega)
  rw [e] at this
  exact this

/-- The factors: none, or those with 0 for each row that is a sum of those ahead of it. -/
def SolR (p : Nat) [NeZero p] (rows : List (List Int)) (goal : List Int) : Option (List Int) → Prop
  | none => ¬ Span (mat p rows) rows.length (vec p goal)
  | some f => GoodRow p rows.length f ∧ (∀ k, vec p goal k = sm (fun i => vec p f i * mat p rows i k) rows.length) ∧ ∀ i, i < rows.length → Span (mat p rows) i (mat p rows i) → gi f i = 0

theorem SolR.spans {rows : List (List Int)} {goal f : List Int} (h : SolR p rows goal (some f)) : Span (mat p rows) rows.length (vec p goal) := ⟨vec p f, h.2.1⟩

/-- A sum that is 0 although its last factor is not. -/
theorem span_last (hp : Pr p) {R : Nat → Nat → Fin p} {i : Nat} {d : Nat → Fin p} (h : ∀ k, sm (fun j => d j * R j k) (i + 1) = 0) (hd : d i ≠ 0) : Span R i (R i) := by
  obtain ⟨b, hb⟩ := fin_inv hp hd
  refine ⟨fun j => (-b) * d j, fun k => ?_⟩
  have h1 := h k
  simp only [sm] at h1
  have h2 : sm (fun j => (-b) * d j * R j k) i = (-b) * sm (fun j => d j * R j k) i := by
    rw [← sm_mul]
    exact sm_congr (fun j _ => by grind)
  rw [h2]
  have h3 : R i k = (d i * b) * R i k := by rw [hb]; grind
  grind

theorem sm_cut {f : Nat → Fin p} {m i : Nat} (hi : i ≤ m) (h : ∀ j, i ≤ j → j < m → f j = 0) : sm f m = sm f i := by
  induction m with
  | zero => obtain rfl : i = 0 := by omega
            rfl
  | succ m ih =>
    by_cases e : i = m + 1
    · subst e; rfl
    · simp only [sm]
      rw [ih (by omega) (fun j h1 h2 => h j h1 (by omega)), h m (by omega) (by omega)]; grind

theorem SolR.unique (hp : Pr p) {rows : List (List Int)} {goal : List Int} {a b : Option (List Int)} (h : SolR p rows goal a) (h' : SolR p rows goal b) : a = b := by
  cases a with
  | none =>
    cases b with
    | none => rfl
    | some g => exact absurd h'.spans h
  | some f =>
    cases b with
    | none => exact absurd h.spans h'
    | some g =>
      congr 1
      refine vec_inj h.1 h'.1 (fun k hk => ?_)
      -- no index is the greatest at which they differ
      have key : ∀ j, j ≤ rows.length → ∀ i, rows.length - j ≤ i → i < rows.length → vec p f i = vec p g i := by
        intro j
        induction j with
        | zero => intro _ i h1 h2; omega
        | succ j ih =>
          intro hj i h1 h2
          by_cases e : rows.length - j ≤ i
          · exact ih (by omega) i e h2
          · apply Classical.byContradiction
            intro hne
            have hsp : Span (mat p rows) i (mat p rows i) := by
              refine span_last hp (d := fun t => vec p f t - vec p g t) (fun k => ?_) (fun e => hne (by grind))
              have h3 := h.2.1 k
              have h4 := h'.2.1 k
              have h5 : sm (fun t => (vec p f t - vec p g t) * mat p rows t k) rows.length = 0 := by
                have e1 : sm (fun t => (vec p f t - vec p g t) * mat p rows t k) rows.length = sm (fun t => vec p f t * mat p rows t k + (-1) * (vec p g t * mat p rows t k)) rows.length := sm_congr (fun t _ => by grind)
                rw [e1, sm_add, sm_mul, ← h3, ← h4]; grind
              rw [sm_cut (i := i + 1) (by omega) (fun t ht1 ht2 => by
                show (vec p f t - vec p g t) * mat p rows t k = 0
                rw [ih (by omega) t (by omega) ht2]; grind)] at h5
              exact h5
            exact hne (by rw [(vec_zero h.1).2 (h.2.2 i h2 hsp), (vec_zero h'.1).2 (h'.2.2 i h2 hsp)])
      exact key rows.length (Nat.le_refl _) k (by omega) hk

/-! The reference's way: the columns of the table and the goal behind them, reduced. -/

/-- The k-th row of what is reduced. -/
def augRow (rows : List (List Int)) (goal : List Int) (k : Nat) : List Int := tab (rows.length + 1) (fun i => if i < rows.length then gi (gr rows i) k else gi goal k)
def augAll (rows : List (List Int)) (goal : List Int) : List (List Int) := (List.range goal.length).map (augRow rows goal)
theorem augAll_length (rows : List (List Int)) (goal : List Int) : (augAll rows goal).length = goal.length := by simp [augAll]
theorem augAll_get (rows : List (List Int)) (goal : List Int) {k : Nat} (hk : k < goal.length) : gr (augAll rows goal) k = augRow rows goal k := by
  rw [gr_lt (by rw [augAll_length]; exact hk)]; simp [augAll]
theorem augAll_good {q n : Nat} {rows : List (List Int)} {goal : List Int} (hr : GoodRows q n rows) (hg : GoodRow q n goal) : GoodRows q (rows.length + 1) (augAll rows goal) := fun k hk => by
  rw [augAll_length] at hk
  rw [augAll_get _ _ hk]
  refine ⟨tab_length _ _, fun i hi => ?_⟩
  unfold augRow
  rw [tab_get hi]
  split
  · rename_i h; exact (hr i h).2 k (by rw [← hg.1]; exact hk)
  · exact hg.2 k (by rw [← hg.1]; exact hk)

/-- The product of c and v over the first m. -/
def dt (m : Nat) (c v : Nat → Fin p) : Fin p := sm (fun i => c i * v i) m
theorem dt_span {m n : Nat} {R : Nat → Nat → Fin p} {c v : Nat → Fin p} (hv : Span R n v) (h : ∀ i, i < n → dt m c (R i) = 0) : dt m c v = 0 := by
  obtain ⟨d, hd⟩ := hv
  unfold dt
  have e : sm (fun i => c i * v i) m = sm (fun i => sm (fun j => d j * (c i * R j i)) n) m := sm_congr (fun i _ => by
    rw [hd i, ← sm_mul]; exact sm_congr (fun j _ => by grind))
  rw [e, sm_comm]
  refine sm_zero (fun j hj => ?_)
  have := h j hj
  unfold dt at this
  rw [sm_mul, this]; grind

/-- c is orthogonal to all rows of the table's columns just if it is to the reduced ones. -/
theorem red_orth {m : Nat} {A a : List (List Int)} (h : IsRed p m A a) {c : Nat → Fin p} (mm : Nat) : (∀ i, i < A.length → dt mm c (mat p A i) = 0) ↔ (∀ i, i < a.length → dt mm c (mat p a i) = 0) :=
  ⟨fun h1 i hi => dt_span ((h.inv.span _).2 (Span.row (mat p a) hi)) h1, fun h1 i hi => dt_span ((h.inv.span _).1 (Span.row (mat p A) hi)) h1⟩

theorem aug_dt {rows : List (List Int)} {goal : List Int} {k : Nat} (hk : k < goal.length) (c : Nat → Fin p) :
    dt (rows.length + 1) c (mat p (augAll rows goal) k) = sm (fun i => c i * mat p rows i k) rows.length + c rows.length * vec p goal k := by
  unfold dt
  simp only [sm]
  have e : ∀ i, i < rows.length + 1 → mat p (augAll rows goal) k i = if i < rows.length then mat p rows i k else vec p goal k := fun i hi => by
    show vec p (gr (augAll rows goal) k) i = _
    rw [augAll_get _ _ hk]
    unfold vec augRow
    rw [tab_get hi]
    split
    · rfl
    · rfl
  congr 1
  · exact sm_congr (fun i hi => by rw [e i (by omega), if_pos hi])
  · rw [e rows.length (by omega), if_neg (by omega)]

/-- What the reference answers. -/
def solF (m : Nat) (a : List (List Int)) : List Int := tab m (fun k => if 0 ≤ ldIx a k a.length then gi (gr a (ldIx a k a.length).toNat) m else 0)

theorem red_lead {m : Nat} {A a : List (List Int)} (h : IsRed p m A a) {r : Nat} (hr : r < a.length) {k : Nat} (hk : k < m) : mat p a r k = if ldN (gr a r) = k then 1 else if 0 ≤ ldIx a k a.length then 0 else mat p a r k := by
  by_cases e : ldN (gr a r) = k
  · rw [if_pos e, ← e]
    have := h.inv.rr.unit r r hr hr
    rw [if_pos rfl] at this
    exact this
  · rw [if_neg e]
    split
    · rename_i h0
      have hb := ldIx_bounds a k a.length
      have h2 := hb.2.2 h0
      have := h.inv.rr.unit r (ldIx a k a.length).toNat hr (by omega)
      rw [if_neg (fun e2 => e (by rw [e2]; exact h2))] at this
      rw [h2] at this
      exact this
    · rfl

theorem spec_sol (hp : Pr p) {n : Nat} {rows : List (List Int)} {goal : List Int} {a : List (List Int)} (hr : GoodRows p n rows) (hg : GoodRow p n goal) (h : IsRed p (rows.length + 1) (augAll rows goal) a) :
    SolR p rows goal (if 0 ≤ ldIx a rows.length a.length then none else some (solF rows.length a)) := by
  have hp2 := hp.pos
  have hle : ∀ k, ¬ k < goal.length → vec p goal k = 0 ∧ ∀ i, i < rows.length → mat p rows i k = 0 := fun k hk => ⟨vec_ge (by omega), fun i hi => vec_ge (by rw [(hr i hi).1, ← hg.1]; omega)⟩
  split
  · -- the goal's column has a lead
    rename_i h0
    have hb := ldIx_bounds a rows.length a.length
    rintro ⟨c, hc⟩
    have ho := (red_orth h (c := fun i => if i < rows.length then c i else -1) (rows.length + 1)).1 (fun k hk => by
      rw [augAll_length] at hk
      rw [aug_dt hk, sm_congr (g := fun i => c i * mat p rows i k) (fun i hi => by simp only [if_pos hi]), ← hc k]
      simp only [Nat.lt_irrefl, if_false]
      grind) (ldIx a rows.length a.length).toNat (by omega)
    have hl := hb.2.2 h0
    unfold dt at ho
    rw [sm_single rows.length (by omega) (fun i hi hne => by
      have : mat p a (ldIx a rows.length a.length).toNat i = 0 := h.inv.rr.front _ i (by omega) (by rw [hl]; omega)
      rw [this]; grind)] at ho
    have h1 : mat p a (ldIx a rows.length a.length).toNat rows.length = 1 := by
      rw [red_lead h (by omega) (by omega), if_pos hl]
    rw [h1] at ho
    simp only [Nat.lt_irrefl, if_false] at ho
    exact one_ne_zero hp2.1 (by grind)
  · rename_i h0
    have hfg : GoodRow p rows.length (solF rows.length a) := ⟨tab_length _ _, fun i hi => by
      unfold solF
      rw [tab_get hi]
      split
      · have hb := ldIx_bounds a i a.length
        exact (h.inv.good _ (by omega)).2 rows.length (by omega)
      · omega⟩
    have hfv : ∀ i, i < rows.length → vec p (solF rows.length a) i = if 0 ≤ ldIx a i a.length then mat p a (ldIx a i a.length).toNat rows.length else 0 := fun i hi => by
      show phi p (gi (solF rows.length a) i) = _
      unfold solF
      rw [tab_get hi]
      split
      · rfl
      · exact phi_zero
    refine ⟨hfg, fun k => ?_, fun i hi hsp => ?_⟩
    · -- the factors solve
      have ho : ∀ r, r < a.length → dt (rows.length + 1) (fun i => if i < rows.length then vec p (solF rows.length a) i else -1) (mat p a r) = 0 := by
        intro r hr'
        have hlr : ldN (gr a r) < rows.length := by
          have h1 := (lead_some (h.inv.good r hr') (h.inv.lead r hr')).1
          have h2 : ldN (gr a r) ≠ rows.length := ldIx_neg (by omega) r hr'
          omega
        have hix : ldIx a (ldN (gr a r)) a.length = r := by
          have hb := ldIx_bounds a (ldN (gr a r)) a.length
          by_cases c : 0 ≤ ldIx a (ldN (gr a r)) a.length
          · have h3 := hb.2.2 c
            have : (ldIx a (ldN (gr a r)) a.length).toNat = r := by
              rcases Nat.lt_trichotomy (ldIx a (ldN (gr a r)) a.length).toNat r with c1 | c1 | c1
              · have := h.asc _ r c1 hr'; omega
              · exact c1
              · have := h.asc r _ c1 (by omega); omega
            omega
          · exact absurd rfl (ldIx_neg (show ldIx a (ldN (gr a r)) a.length < 0 by omega) r hr')
        unfold dt
        simp only [sm]
        rw [if_neg (by omega), sm_single (ldN (gr a r)) hlr (fun i hi hne => by
          simp only [if_pos hi]
          rw [hfv i hi, red_lead h hr' (show i < rows.length + 1 by omega), if_neg (show ldN (gr a r) ≠ i from fun e => hne e.symm)]
          by_cases c0 : 0 ≤ ldIx a i a.length
          · simp only [if_pos c0]; grind
          · simp only [if_neg c0]; grind)]
        simp only [if_pos hlr]
        rw [hfv _ hlr, if_pos (by omega), hix, Int.toNat_natCast, red_lead h hr' (show ldN (gr a r) < rows.length + 1 by omega), if_pos rfl]
        grind
      by_cases hk : k < goal.length
      · have := (red_orth h (rows.length + 1)).2 ho k (by rw [augAll_length]; exact hk)
        rw [aug_dt hk, sm_congr (g := fun i => vec p (solF rows.length a) i * mat p rows i k) (fun i hi => by simp only [if_pos hi])] at this
        simp only [Nat.lt_irrefl, if_false] at this
        grind
      · rw [(hle k hk).1, sm_zero (fun i hi => by rw [(hle k hk).2 i hi]; grind)]
    · -- what is a sum of those ahead has no lead
      obtain ⟨c, hc⟩ := hsp
      unfold solF
      rw [tab_get hi, if_neg]
      intro h1
      have hb := ldIx_bounds a i a.length
      have hl := hb.2.2 h1
      have ho := (red_orth h (c := fun j => if j < i then c j else if j = i then -1 else 0) (rows.length + 1)).1 (fun k hk => by
        rw [augAll_length] at hk
        rw [aug_dt hk, if_neg (by omega), if_neg (by omega), sm_cut (i := i + 1) (by omega) (fun j h1 h2 => by rw [if_neg (by omega), if_neg (by omega)]; grind)]
        simp only [sm]
        rw [sm_congr (g := fun j => c j * mat p rows j k) (fun j hj => by simp only [if_pos hj]), ← hc k]
        simp only [Nat.lt_irrefl, if_false, if_true]
        grind) (ldIx a i a.length).toNat (by omega)
      unfold dt at ho
      rw [sm_single i (by omega) (fun j hj hne => by
        by_cases c1 : j < i
        · have : mat p a (ldIx a i a.length).toNat j = 0 := h.inv.rr.front _ j (by omega) (by rw [hl]; exact c1)
          rw [this]; grind
        · simp only [if_neg c1, if_neg hne]; grind)] at ho
      have h2 : mat p a (ldIx a i a.length).toNat i = 1 := by rw [red_lead h (by omega) (by omega), if_pos hl]
      rw [h2] at ho
      simp only [Nat.lt_irrefl, if_false, if_true] at ho
      exact one_ne_zero hp2.1 (by grind)
end
end Go.Proofs.Yteoiaicpdmlecaa
