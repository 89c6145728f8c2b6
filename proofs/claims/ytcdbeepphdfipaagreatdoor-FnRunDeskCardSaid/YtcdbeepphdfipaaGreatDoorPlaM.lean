/- The checks of reduced rows, in plain Lean. Factors with which rows add up to a goal, plain: what they are, that they are unique, how the program and the reference come to them. Independent vectors: no more of them than of those that span. Plain. The program's way to factors, plain: kept rows, each with the factors that make it. All messages in their order, by number: the digits of a number. Plain. Ranks of columns: a column more raises the rank just if it is no sum of the others. Plain. What the laws on tables say of reduced rows, of checks and of factors. Plain. -/
import Derived.Test.YtcdbeepphdfipaaGreatDoorRedu
import Derived.Test.YtcdbeepphdfipaaGreatDoorKnow
namespace Go.Proofs.YtcdbeepphdfipaaGreatDoor
open Go.RowKit Mat
set_option linter.unusedVariables false

/-- A list of n numbers, told by its places. -/
def tab (n : Nat) (f : Nat → Int) : List Int := (List.range n).map f
theorem tab_length (n : Nat) (f : Nat → Int) : (tab n f).length = n := by simp [tab]
theorem tab_get {n : Nat} {f : Nat → Int} {i : Nat} (hi : i < n) : gi (tab n f) i = f i := by
  rw [gi_lt (by rw [tab_length]; exact hi)]; simp [tab]
theorem tab_congr {n : Nat} {f g : Nat → Int} (h : ∀ i, i < n → f i = g i) : tab n f = tab n g :=
  ext_gi (by rw [tab_length, tab_length]) (fun i hi => by rw [tab_length] at hi; rw [tab_get hi, tab_get hi, h i hi])
theorem tab_set {n : Nat} {f g : Nat → Int} {k : Nat} {v : Int} (hv : k < n → g k = v) (h : ∀ i, i < n → i ≠ k → g i = f i) : (tab n f).set k v = tab n g :=
  ext_gi (by rw [List.length_set, tab_length, tab_length]) (fun i hi => by
    rw [List.length_set, tab_length] at hi
    rw [gi_set (by rw [tab_length]; exact hi), tab_get hi, tab_get hi]
    by_cases e : k = i
    · subst e; rw [if_pos rfl, hv hi]
    · rw [if_neg e, h i hi (fun e' => e e'.symm)])
theorem tab_zero (n : Nat) : tab n (fun _ => 0) = List.replicate n 0 :=
  ext_gi (by simp [tab]) (fun i hi => by rw [tab_length] at hi; rw [tab_get hi, gi_replicate])

/-- Which of the first k rows has its lead in column c; -1 if none. -/
def ldIx (a : List (List Int)) (c : Nat) : Nat → Int
  | 0 => -1
  | k + 1 => if ldN (gr a k) = c then (k : Int) else ldIx a c k

theorem ldIx_bounds (a : List (List Int)) (c k : Nat) : -1 ≤ ldIx a c k ∧ ldIx a c k < (k : Int) ∧ (0 ≤ ldIx a c k → ldN (gr a (ldIx a c k).toNat) = c) := by
  induction k with
  | zero => simp [ldIx]
  | succ k ih =>
    unfold ldIx
    split
    · rename_i h; exact ⟨by omega, by omega, fun _ => by simpa using h⟩
    · exact ⟨ih.1, by omega, ih.2.2⟩

theorem ldIx_neg {a : List (List Int)} {c k : Nat} (h : ldIx a c k < 0) : ∀ i, i < k → ldN (gr a i) ≠ c := by
  induction k with
  | zero => intro i hi; omega
  | succ k ih =>
    unfold ldIx at h
    split at h
    · omega
    · rename_i hne
      intro i hi
      by_cases e : i = k
      · rw [e]; exact hne
      · exact ih h i (by omega)

/-- The row of checks for column c. -/
def nullRow (q : Int) (n : Nat) (a : List (List Int)) (c : Nat) : List Int :=
  tab n (fun k => if 0 ≤ ldIx a k a.length then (-gi (gr a (ldIx a k a.length).toNat) c) % q else if k = c then 1 else 0)
/-- The checks of the columns below c. -/
def nlTo (q : Int) (n : Nat) (a : List (List Int)) : Nat → List (List Int)
  | 0 => []
  | c + 1 => if 0 ≤ ldIx a c a.length then nlTo q n a c else nlTo q n a c ++ [nullRow q n a c]

theorem nlTo_length (q : Int) (n : Nat) (a : List (List Int)) (c : Nat) : (nlTo q n a c).length ≤ c := by
  induction c with
  | zero => simp [nlTo]
  | succ c ih =>
    unfold nlTo
    split
    · omega
    · rw [List.length_append, List.length_singleton]; omega

theorem gr_snoc {rows : List (List Int)} {x : List Int} {i : Nat} (h : i < rows.length + 1) : gr (rows ++ [x]) i = if i < rows.length then gr rows i else x := by
  by_cases c : i < rows.length
  · rw [if_pos c, gr_lt (by simp; omega), gr_lt c, List.getElem_append_left c]
  · rw [if_neg c, gr_lt (by simp; omega), List.getElem_append_right (by omega)]
    simp

theorem nlTo_rows {q : Int} {n : Nat} {a : List (List Int)} {c : Nat} : ∀ i, i < (nlTo q n a c).length → (gr (nlTo q n a c) i).length = n := by
  induction c with
  | zero => intro i hi; simp [nlTo] at hi
  | succ c ih =>
    unfold nlTo
    split
    · exact ih
    · intro i hi
      rw [List.length_append, List.length_singleton] at hi
      rw [gr_snoc hi]
      split
      · rename_i h; exact ih i h
      · rw [nullRow, tab_length]

/-- The lead of a row: its first number that is not 0. -/
theorem ldN_iff {p : Nat} [NeZero p] {n : Nat} {x : List Int} (h : GoodRow p n x) (hl : 0 ≤ leadZ x) {k : Nat} (hk : k < n) : ldN x = k ↔ gi x k ≠ 0 ∧ ∀ j, j < k → gi x j = 0 := by
  have hs := lead_some h hl
  constructor
  · intro e
    subst e
    exact ⟨fun e => hs.2.1 ((vec_zero h).2 e), fun j hj => (vec_zero h).1 (hs.2.2 j hj)⟩
  · rintro ⟨h1, h2⟩
    have := lead_is h hk (fun e => h1 ((vec_zero h).1 e)) (fun j hj => (vec_zero h).2 (h2 j hj))
    unfold ldN
    omega
end Go.Proofs.YtcdbeepphdfipaaGreatDoor

namespace Go.Proofs.YtcdbeepphdfipaaGreatDoor
open Go.RowKit Mat
set_option linter.unusedVariables false

section
variable {p : Nat} [NeZero p]

theorem fin_inv (hp : Pr p) {a : Fin p} (h : a ≠ 0) : ∃ b : Fin p, a * b = 1 := by
  have e : phi p (a.val : Int) = a := by
    apply fin_ext_int
    rw [phi_val, Int.emod_eq_of_lt (by omega) (by have := a.isLt; omega)]
  have h1 : 1 ≤ (a.val : Int) := by
    apply Classical.byContradiction
    intro hc
    apply h
    rw [← e, show (a.val : Int) = 0 by omega, phi_zero]
  refine ⟨phi p (invZ p a.val), ?_⟩
  have := phi_inv hp h1 (by have := a.isLt; omega)
  rw [e] at this
  exact this

/-- The factors: none, or those with 0 for each row that is a sum of those ahead of it. -/
def SolR (p : Nat) [NeZero p] (rows : List (List Int)) (goal : List Int) : Option (List Int) → Prop
  | none => ¬ Span (mat p rows) rows.length (vec p goal)
  | some f => GoodRow p rows.length f ∧ (∀ k, vec p goal k = sm (fun i => vec p f i * mat p rows i k) rows.length) ∧ ∀ i, i < rows.length → Span (mat p rows) i (mat p rows i) → gi f i = 0

theorem SolR.spans {rows : List (List Int)} {goal f : List Int} (h : SolR p rows goal (some f)) : Span (mat p rows) rows.length (vec p goal) := ⟨vec p f, h.2.1⟩

/-- A sum that is 0 although its last factor is not. -/
theorem span_last (hp : Pr p) {R : Nat → Nat → Fin p} {i : Nat} {d : Nat → Fin p} (h : ∀ k, sm (fun j => d j * R j k) (i + 1) = 0) (hd : d i ≠ 0) : Span R i (R i) := by
  obtain ⟨b, hb⟩ := fin_inv hp hd
  refine ⟨fun j => (-b) * d j, fun k => ?_⟩
  have h1 := h k
  simp only [sm] at h1
  have h2 : sm (fun j => (-b) * d j * R j k) i = (-b) * sm (fun j => d j * R j k) i := by
    rw [← sm_mul]
    exact sm_congr (fun j _ => by grind)
  rw [h2]
  have h3 : R i k = (d i * b) * R i k := by rw [hb]; grind
  grind

theorem sm_cut {f : Nat → Fin p} {m i : Nat} (hi : i ≤ m) (h : ∀ j, i ≤ j → j < m → f j = 0) : sm f m = sm f i := by
  induction m with
  | zero => obtain rfl : i = 0 := by omega
            rfl
  | succ m ih =>
    by_cases e : i = m + 1
    · subst e; rfl
    · simp only [sm]
      rw [ih (by omega) (fun j h1 h2 => h j h1 (by omega)), h m (by omega) (by omega)]; grind

theorem SolR.unique (hp : Pr p) {rows : List (List Int)} {goal : List Int} {a b : Option (List Int)} (h : SolR p rows goal a) (h' : SolR p rows goal b) : a = b := by
  cases a with
  | none =>
    cases b with
    | none => rfl
    | some g => exact absurd h'.spans h
  | some f =>
    cases b with
    | none => exact absurd h.spans h'
    | some g =>
      congr 1
      refine vec_inj h.1 h'.1 (fun k hk => ?_)
      -- no index is the greatest at which they differ
      have key : ∀ j, j ≤ rows.length → ∀ i, rows.length - j ≤ i → i < rows.length → vec p f i = vec p g i := by
        intro j
        induction j with
        | zero => intro _ i h1 h2; omega
        | succ j ih =>
          intro hj i h1 h2
          by_cases e : rows.length - j ≤ i
          · exact ih (by omega) i e h2
          · apply Classical.byContradiction
            intro hne
            have hsp : Span (mat p rows) i (mat p rows i) := by
              refine span_last hp (d := fun t => vec p f t - vec p g t) (fun k => ?_) (fun e => hne (by grind))
              have h3 := h.2.1 k
              have h4 := h'.2.1 k
              have h5 : sm (fun t => (vec p f t - vec p g t) * mat p rows t k) rows.length = 0 := by
                have e1 : sm (fun t => (vec p f t - vec p g t) * mat p rows t k) rows.length = sm (fun t => vec p f t * mat p rows t k + (-1) * (vec p g t * mat p rows t k)) rows.length := sm_congr (fun t _ => by grind)
                rw [e1, sm_add, sm_mul, ← h3, ← h4]; grind
              rw [sm_cut (i := i + 1) (by omega) (fun t ht1 ht2 => by
                show (vec p f t - vec p g t) * mat p rows t k = 0
                rw [ih (by omega) t (by omega) ht2]; grind)] at h5
              exact h5
            exact hne (by rw [(vec_zero h.1).2 (h.2.2 i h2 hsp), (vec_zero h'.1).2 (h'.2.2 i h2 hsp)])
      exact key rows.length (Nat.le_refl _) k (by omega) hk

/-! The reference's way: the columns of the table and the goal behind them, reduced. -/

/-- The k-th row of what is reduced. -/
def augRow (rows : List (List Int)) (goal : List Int) (k : Nat) : List Int := tab (rows.length + 1) (fun i => if i < rows.length then gi (gr rows i) k else gi goal k)
def augAll (rows : List (List Int)) (goal : List Int) : List (List Int) := (List.range goal.length).map (augRow rows goal)
theorem augAll_length (rows : List (List Int)) (goal : List Int) : (augAll rows goal).length = goal.length := by simp [augAll]
theorem augAll_get (rows : List (List Int)) (goal : List Int) {k : Nat} (hk : k < goal.length) : gr (augAll rows goal) k = augRow rows goal k := by
  rw [gr_lt (by rw [augAll_length]; exact hk)]; simp [augAll]
theorem augAll_good {q n : Nat} {rows : List (List Int)} {goal : List Int} (hr : GoodRows q n rows) (hg : GoodRow q n goal) : GoodRows q (rows.length + 1) (augAll rows goal) := fun k hk => by
  rw [augAll_length] at hk
  rw [augAll_get _ _ hk]
  refine ⟨tab_length _ _, fun i hi => ?_⟩
  unfold augRow
  rw [tab_get hi]
  split
  · rename_i h; exact (hr i h).2 k (by rw [← hg.1]; exact hk)
  · exact hg.2 k (by rw [← hg.1]; exact hk)

/-- The product of c and v over the first m. -/
def dt (m : Nat) (c v : Nat → Fin p) : Fin p := sm (fun i => c i * v i) m
theorem dt_span {m n : Nat} {R : Nat → Nat → Fin p} {c v : Nat → Fin p} (hv : Span R n v) (h : ∀ i, i < n → dt m c (R i) = 0) : dt m c v = 0 := by
  obtain ⟨d, hd⟩ := hv
  unfold dt
  have e : sm (fun i => c i * v i) m = sm (fun i => sm (fun j => d j * (c i * R j i)) n) m := sm_congr (fun i _ => by
    rw [hd i, ← sm_mul]; exact sm_congr (fun j _ => by grind))
  rw [e, sm_comm]
  refine sm_zero (fun j hj => ?_)
  have := h j hj
  unfold dt at this
  rw [sm_mul, this]; grind

/-- c is orthogonal to all rows of the table's columns just if it is to the reduced ones. -/
theorem red_orth {m : Nat} {A a : List (List Int)} (h : IsRed p m A a) {c : Nat → Fin p} (mm : Nat) : (∀ i, i < A.length → dt mm c (mat p A i) = 0) ↔ (∀ i, i < a.length → dt mm c (mat p a i) = 0) :=
  ⟨fun h1 i hi => dt_span ((h.inv.span _).2 (Span.row (mat p a) hi)) h1, fun h1 i hi => dt_span ((h.inv.span _).1 (Span.row (mat p A) hi)) h1⟩

theorem aug_dt {rows : List (List Int)} {goal : List Int} {k : Nat} (hk : k < goal.length) (c : Nat → Fin p) :
    dt (rows.length + 1) c (mat p (augAll rows goal) k) = sm (fun i => c i * mat p rows i k) rows.length + c rows.length * vec p goal k := by
  unfold dt
  simp only [sm]
  have e : ∀ i, i < rows.length + 1 → mat p (augAll rows goal) k i = if i < rows.length then mat p rows i k else vec p goal k := fun i hi => by
    show vec p (gr (augAll rows goal) k) i = _
    rw [augAll_get _ _ hk]
    unfold vec augRow
    rw [tab_get hi]
    split
    · rfl
    · rfl
  congr 1
  · exact sm_congr (fun i hi => by rw [e i (by omega), if_pos hi])
  · rw [e rows.length (by omega), if_neg (by omega)]

/-- What the reference answers. -/
def solF (m : Nat) (a : List (List Int)) : List Int := tab m (fun k => if 0 ≤ ldIx a k a.length then gi (gr a (ldIx a k a.length).toNat) m else 0)

theorem red_lead {m : Nat} {A a : List (List Int)} (h : IsRed p m A a) {r : Nat} (hr : r < a.length) {k : Nat} (hk : k < m) : mat p a r k = if ldN (gr a r) = k then 1 else if 0 ≤ ldIx a k a.length then 0 else mat p a r k := by
  by_cases e : ldN (gr a r) = k
  · rw [if_pos e, ← e]
    have := h.inv.rr.unit r r hr hr
    rw [if_pos rfl] at this
    exact this
  · rw [if_neg e]
    split
    · rename_i h0
      have hb := ldIx_bounds a k a.length
      have h2 := hb.2.2 h0
      have := h.inv.rr.unit r (ldIx a k a.length).toNat hr (by omega)
      rw [if_neg (fun e2 => e (by rw [e2]; exact h2))] at this
      rw [h2] at this
      exact this
    · rfl

theorem spec_sol (hp : Pr p) {n : Nat} {rows : List (List Int)} {goal : List Int} {a : List (List Int)} (hr : GoodRows p n rows) (hg : GoodRow p n goal) (h : IsRed p (rows.length + 1) (augAll rows goal) a) :
    SolR p rows goal (if 0 ≤ ldIx a rows.length a.length then none else some (solF rows.length a)) := by
  have hp2 := hp.pos
  have hle : ∀ k, ¬ k < goal.length → vec p goal k = 0 ∧ ∀ i, i < rows.length → mat p rows i k = 0 := fun k hk => ⟨vec_ge (by omega), fun i hi => vec_ge (by rw [(hr i hi).1, ← hg.1]; omega)⟩
  split
  · -- the goal's column has a lead
    rename_i h0
    have hb := ldIx_bounds a rows.length a.length
    rintro ⟨c, hc⟩
    have ho := (red_orth h (c := fun i => if i < rows.length then c i else -1) (rows.length + 1)).1 (fun k hk => by
      rw [augAll_length] at hk
      rw [aug_dt hk, sm_congr (g := fun i => c i * mat p rows i k) (fun i hi => by simp only [if_pos hi]), ← hc k]
      simp only [Nat.lt_irrefl, if_false]
      grind) (ldIx a rows.length a.length).toNat (by omega)
    have hl := hb.2.2 h0
    unfold dt at ho
    rw [sm_single rows.length (by omega) (fun i hi hne => by
      have : mat p a (ldIx a rows.length a.length).toNat i = 0 := h.inv.rr.front _ i (by omega) (by rw [hl]; omega)
      rw [this]; grind)] at ho
    have h1 : mat p a (ldIx a rows.length a.length).toNat rows.length = 1 := by
      rw [red_lead h (by omega) (by omega), if_pos hl]
    rw [h1] at ho
    simp only [Nat.lt_irrefl, if_false] at ho
    exact one_ne_zero hp2.1 (by grind)
  · rename_i h0
    have hfg : GoodRow p rows.length (solF rows.length a) := ⟨tab_length _ _, fun i hi => by
      unfold solF
      rw [tab_get hi]
      split
      · have hb := ldIx_bounds a i a.length
        exact (h.inv.good _ (by omega)).2 rows.length (by omega)
      · omega⟩
    have hfv : ∀ i, i < rows.length → vec p (solF rows.length a) i = if 0 ≤ ldIx a i a.length then mat p a (ldIx a i a.length).toNat rows.length else 0 := fun i hi => by
      show phi p (gi (solF rows.length a) i) = _
      unfold solF
      rw [tab_get hi]
      split
      · rfl
      · exact phi_zero
    refine ⟨hfg, fun k => ?_, fun i hi hsp => ?_⟩
    · -- the factors solve
      have ho : ∀ r, r < a.length → dt (rows.length + 1) (fun i => if i < rows.length then vec p (solF rows.length a) i else -1) (mat p a r) = 0 := by
        intro r hr'
        have hlr : ldN (gr a r) < rows.length := by
          have h1 := (lead_some (h.inv.good r hr') (h.inv.lead r hr')).1
          have h2 : ldN (gr a r) ≠ rows.length := ldIx_neg (by omega) r hr'
          omega
        have hix : ldIx a (ldN (gr a r)) a.length = r := by
          have hb := ldIx_bounds a (ldN (gr a r)) a.length
          by_cases c : 0 ≤ ldIx a (ldN (gr a r)) a.length
          · have h3 := hb.2.2 c
            have : (ldIx a (ldN (gr a r)) a.length).toNat = r := by
              rcases Nat.lt_trichotomy (ldIx a (ldN (gr a r)) a.length).toNat r with c1 | c1 | c1
              · have := h.asc _ r c1 hr'; omega
              · exact c1
              · have := h.asc r _ c1 (by omega); omega
            omega
          · exact absurd rfl (ldIx_neg (show ldIx a (ldN (gr a r)) a.length < 0 by omega) r hr')
        unfold dt
        simp only [sm]
        rw [if_neg (by omega), sm_single (ldN (gr a r)) hlr (fun i hi hne => by
          simp only [if_pos hi]
          rw [hfv i hi, red_lead h hr' (show i < rows.length + 1 by omega), if_neg (show ldN (gr a r) ≠ i from fun e => hne e.symm)]
          by_cases c0 : 0 ≤ ldIx a i a.length
          · simp only [if_pos c0]; grind
          · simp only [if_neg c0]; grind)]
        simp only [if_pos hlr]
        rw [hfv _ hlr, if_pos (by omega), hix, Int.toNat_natCast, red_lead h hr' (show ldN (gr a r) < rows.length + 1 by omega), if_pos rfl]
        grind
      by_cases hk : k < goal.length
      · have := (red_orth h (rows.length + 1)).2 ho k (by rw [augAll_length]; exact hk)
        rw [aug_dt hk, sm_congr (g := fun i => vec p (solF rows.length a) i * mat p rows i k) (fun i hi => by simp only [if_pos hi])] at this
        simp only [Nat.lt_irrefl, if_false] at this
        grind
      · rw [(hle k hk).1, sm_zero (fun i hi => by rw [(hle k hk).2 i hi]; grind)]
    · -- what is a sum of those ahead has no lead
      obtain ⟨c, hc⟩ := hsp
      unfold solF
      rw [tab_get hi, if_neg]
      intro h1
      have hb := ldIx_bounds a i a.length
      have hl := hb.2.2 h1
      have ho := (red_orth h (c := fun j => if j < i then c j else if j = i then -1 else 0) (rows.length + 1)).1 (fun k hk => by
        rw [augAll_length] at hk
        rw [aug_dt hk, if_neg (by omega), if_neg (by omega), sm_cut (i := i + 1) (by omega) (fun j h1 h2 => by rw [if_neg (by omega), if_neg (by omega)]; grind)]
        simp only [sm]
        rw [sm_congr (g := fun j => c j * mat p rows j k) (fun j hj => by simp only [if_pos hj]), ← hc k]
        simp only [Nat.lt_irrefl, if_false, if_true]
        grind) (ldIx a i a.length).toNat (by omega)
      unfold dt at ho
      rw [sm_single i (by omega) (fun j hj hne => by
        by_cases c1 : j < i
        · have : mat p a (ldIx a i a.length).toNat j = 0 := h.inv.rr.front _ j (by omega) (by rw [hl]; exact c1)
          rw [this]; grind
        · simp only [if_neg c1, if_neg hne]; grind)] at ho
      have h2 : mat p a (ldIx a i a.length).toNat i = 1 := by rw [red_lead h (by omega) (by omega), if_pos hl]
      rw [h2] at ho
      simp only [Nat.lt_irrefl, if_false, if_true] at ho
      exact one_ne_zero hp2.1 (by grind)
end
end Go.Proofs.YtcdbeepphdfipaaGreatDoor

namespace Go.Proofs.YtcdbeepphdfipaaGreatDoor
open Go.RowKit Mat
set_option linter.unusedVariables false

section
variable {p : Nat} [NeZero p]

/-- How many below m are picked. -/
def cntB (P : Nat → Bool) : Nat → Nat
  | 0 => 0
  | m + 1 => if P m then cntB P m + 1 else cntB P m
theorem cntB_drop {P : Nat → Bool} {m t : Nat} (ht : t < m) (hp : P t = true) : cntB P m = cntB (fun i => P i && decide (i ≠ t)) m + 1 := by
  induction m with
  | zero => omega
  | succ m ih =>
    have hsame : ∀ k, k ≤ t → cntB (fun i => P i && decide (i ≠ t)) k = cntB P k := by
      intro k
      induction k with
      | zero => intro _; rfl
      | succ k ihk =>
        intro hk
        simp only [cntB]
        rw [ihk (by omega)]
        have : decide (k ≠ t) = true := by simp; omega
        simp only [this, Bool.and_true]
    simp only [cntB]
    by_cases e : t = m
    · subst e
      rw [hsame t (Nat.le_refl _)]
      simp [hp]
    · have := ih (by omega)
      have h2 : decide (m ≠ t) = true := by simp; omega
      simp only [h2, Bool.and_true]
      split <;> omega
theorem cntB_all (m : Nat) : cntB (fun _ => true) m = m := by
  induction m with
  | zero => rfl
  | succ m ih => simp [cntB, ih]

/-- The picked ones of R are independent. -/
def IndB (R : Nat → Nat → Fin p) (P : Nat → Bool) (m : Nat) : Prop :=
  ∀ c : Nat → Fin p, (∀ k, sm (fun i => if P i then c i * R i k else 0) m = 0) → ∀ i, i < m → P i = true → c i = 0
/-- R is independent. -/
def Ind (R : Nat → Nat → Fin p) (m : Nat) : Prop := ∀ c : Nat → Fin p, (∀ k, sm (fun i => c i * R i k) m = 0) → ∀ i, i < m → c i = 0
theorem Ind.pick {R : Nat → Nat → Fin p} {m : Nat} (h : Ind R m) : IndB R (fun _ => true) m := fun c hc i hi _ => h c (fun k => by simpa using hc k) i hi
theorem RR.ind {R : Nat → Nat → Fin p} {m : Nat} {ld : Nat → Nat} (h : RR R m ld) : Ind R m := fun c hc i hi => by
  have h1 := hc (ld i)
  rw [sm_single i hi (fun j hj hne => by rw [h.unit j i hj hi, if_neg hne]; grind), h.unit i i hi hi, if_pos rfl] at h1
  grind

theorem dim_pick (hp : Pr p) : ∀ (n : Nat) {m : Nat} {R S : Nat → Nat → Fin p} {P : Nat → Bool}, (∀ i, i < m → P i = true → Span S n (R i)) → IndB R P m → cntB P m ≤ n
  | 0, m, R, S, P, hs, hi => by
    apply Classical.byContradiction
    intro hc
    have hex : ∃ i, i < m ∧ P i = true := by
      apply Classical.byContradiction
      intro hno
      apply hc
      have : ∀ k, k ≤ m → cntB P k = 0 := by
        intro k
        induction k with
        | zero => intro _; rfl
        | succ k ih =>
          intro hk
          have : P k = false := by rw [Bool.eq_false_iff]; intro h; exact hno ⟨k, by omega, h⟩
          simp [cntB, this, ih (by omega)]
      rw [this m (Nat.le_refl _)]; exact Nat.le_refl _
    obtain ⟨t, ht, hpt⟩ := hex
    have h0 : ∀ i, i < m → P i = true → ∀ k, R i k = 0 := fun i hi' hpi k => by
      obtain ⟨c, hc⟩ := hs i hi' hpi
      rw [hc k]; rfl
    have := hi (fun _ => 1) (fun k => sm_zero (fun i hi' => by
      by_cases hpi : P i = true
      · simp only [hpi, if_true]; rw [h0 i hi' hpi k]; grind
      · simp only [hpi]; rfl)) t ht hpt
    exact one_ne_zero hp.pos.1 this
  | n + 1, m, R, S, P, hs, hi => by
    -- the factors at the last spanning vector
    have hch : ∀ i, ∃ c : Nat → Fin p, i < m → P i = true → ∀ k, R i k = sm (fun j => c j * S j k) (n + 1) := fun i => by
      by_cases h : i < m ∧ P i = true
      · obtain ⟨c, hc⟩ := hs i h.1 h.2
        exact ⟨c, fun _ _ => hc⟩
      · exact ⟨fun _ => 0, fun h1 h2 => absurd ⟨h1, h2⟩ h⟩
    obtain ⟨C, hC⟩ := Classical.axiomOfChoice hch
    by_cases hex : ∃ t, t < m ∧ P t = true ∧ C t n ≠ 0
    · obtain ⟨t, ht, hpt, hct⟩ := hex
      obtain ⟨b, hb⟩ := fin_inv hp hct
      rw [cntB_drop ht hpt]
      have := dim_pick hp n (m := m) (R := fun i k => R i k - (C i n * b) * R t k) (S := S) (P := fun i => P i && decide (i ≠ t)) (fun i hi' hpi => by
        rw [Bool.and_eq_true] at hpi
        refine ⟨fun j => C i j - (C i n * b) * C t j, fun k => ?_⟩
        show R i k - _ = _
        rw [hC i hi' hpi.1 k, hC t ht hpt k]
        simp only [sm]
        have e : sm (fun j => (C i j - C i n * b * C t j) * S j k) n = sm (fun j => C i j * S j k) n + (-(C i n * b)) * sm (fun j => C t j * S j k) n := by
          rw [← sm_mul, ← sm_add]; exact sm_congr (fun j _ => by grind)
        rw [e]
        have e2 : C i n * b * (C t n * S n k) = (C t n * b) * (C i n * S n k) := by grind
        have e3 : C i n * b * (sm (fun j => C t j * S j k) n + C t n * S n k) = C i n * b * sm (fun j => C t j * S j k) n + C i n * b * (C t n * S n k) := by grind
        rw [e3, e2, hb]
        grind) (fun c hc i hi' hpi => by
        rw [Bool.and_eq_true] at hpi
        have hne : i ≠ t := by simpa using hpi.2
        obtain ⟨s, hsd⟩ : ∃ s, s = sm (fun i => if (P i && decide (i ≠ t)) = true then c i * (C i n * b) else 0) m := ⟨_, rfl⟩
        have := hi (fun j => if j = t then -s else c j) (fun k => by
          have h1 := hc k
          have e1 : sm (fun i => if (P i && decide (i ≠ t)) = true then c i * (R i k - C i n * b * R t k) else 0) m = sm (fun i => if (P i && decide (i ≠ t)) = true then c i * R i k else 0) m + (-(R t k)) * sm (fun i => if (P i && decide (i ≠ t)) = true then c i * (C i n * b) else 0) m := by
            rw [← sm_mul, ← sm_add]
            refine sm_congr (fun j _ => ?_)
            by_cases h : (P j && decide (j ≠ t)) = true
            · simp only [if_pos h]; grind
            · simp only [if_neg h]; grind
          rw [e1, ← hsd] at h1
          have e2 : sm (fun i => if P i = true then (if i = t then -s else c i) * R i k else 0) m = sm (fun i => (if (P i && decide (i ≠ t)) = true then c i * R i k else 0) + (if i = t then -s * R t k else 0)) m := by
            refine sm_congr (fun j _ => ?_)
            by_cases e : j = t
            · subst e
              have : (P j && decide (j ≠ j)) = false := by simp
              simp only [hpt, if_true]
              grind
            · have : decide (j ≠ t) = true := by simpa using e
              simp only [this, Bool.and_true, if_neg e]
              split <;> grind
          rw [e2, sm_add, sm_single (f := fun i => if i = t then -s * R t k else 0) t ht (fun j _ hne => by simp only [if_neg hne])]
          simp only [if_true]
          grind) i hi' hpi.1
        simp only [if_neg hne] at this
        exact this)
      omega
    · have := dim_pick hp n (m := m) (R := R) (S := S) (P := P) (fun i hi' hpi => ⟨C i, fun k => by
        have h0 : C i n = 0 := by
          apply Classical.byContradiction
          intro h
          exact hex ⟨i, hi', hpi, h⟩
        rw [hC i hi' hpi k]
        simp only [sm]
        rw [h0]; grind⟩) hi
      omega

/-- Independent vectors in a span: no more than the spanning ones. -/
theorem dim_le (hp : Pr p) {m n : Nat} {R S : Nat → Nat → Fin p} (hs : ∀ i, i < m → Span S n (R i)) (hi : Ind R m) : m ≤ n := by
  have := dim_pick hp n (P := fun _ => true) (fun i h _ => hs i h) hi.pick
  rwa [cntB_all] at this
end
end Go.Proofs.YtcdbeepphdfipaaGreatDoor

namespace Go.Proofs.YtcdbeepphdfipaaGreatDoor
open Go.RowKit Mat
set_option linter.unusedVariables false

/-- A row with its factors. -/
abbrev RF := List Int × List Int
def gk (K : List RF) (j : Nat) : RF := K.getD j ([], [])
theorem gk_lt {K : List RF} {j : Nat} (h : j < K.length) : gk K j = K[j] := by simp [gk, h]
theorem take_succ_gk {K : List RF} {k : Nat} (h : k < K.length) : K.take (k + 1) = K.take k ++ [gk K k] := by
  rw [List.take_succ_eq_append_getElem h, gk_lt h]
theorem gk_snoc_lt {K : List RF} {x : RF} {j : Nat} (h : j < K.length) : gk (K ++ [x]) j = gk K j := by
  rw [gk_lt (by simp; omega), gk_lt h, List.getElem_append_left h]
theorem gk_snoc_eq {K : List RF} {x : RF} {j : Nat} (h : j = K.length) : gk (K ++ [x]) j = x := by
  subst h; rw [gk_lt (by simp)]; simp

/-- One kept row is taken off. -/
def offF (q : Int) (x k : RF) : RF := (addZ q x.1 (-(gi x.1 (ldN k.1))) k.1, addZ q x.2 (-(gi x.1 (ldN k.1))) k.2)
/-- All kept rows are taken off. -/
def lessF (q : Int) (K : List RF) (x : RF) : RF := K.foldl (offF q) x
theorem lessF_snoc (q : Int) (K : List RF) (k x : RF) : lessF q (K ++ [k]) x = offF q (lessF q K x) k := by simp [lessF, List.foldl_append]

section
variable {p : Nat} [NeZero p]

def kmat (p : Nat) [NeZero p] (K : List RF) : Nat → Nat → Fin p := fun j => vec p (gk K j).1
def kfac (p : Nat) [NeZero p] (K : List RF) : Nat → Nat → Fin p := fun j => vec p (gk K j).2

/-- What holds behind the first k rows. -/
structure KInv (p : Nat) [NeZero p] (n : Nat) (rows : List (List Int)) (k : Nat) (K : List RF) : Prop where
  few : K.length ≤ k
  good : ∀ j, j < K.length → GoodRow p n (gk K j).1 ∧ GoodRow p rows.length (gk K j).2
  lead : ∀ j, j < K.length → 0 ≤ leadZ (gk K j).1
  one : ∀ j, j < K.length → kmat p K j (ldN (gk K j).1) = 1
  tri : ∀ i j, i < j → j < K.length → kmat p K j (ldN (gk K i).1) = 0
  told : ∀ j, j < K.length → ∀ t, kmat p K j t = sm (fun i => kfac p K j i * mat p rows i t) rows.length
  supp : ∀ j, j < K.length → ∀ i, i < rows.length → Span (mat p rows) i (mat p rows i) → kfac p K j i = 0
  span : ∀ i, i < k → Span (kmat p K) K.length (mat p rows i)

theorem KInv.empty (n : Nat) (rows : List (List Int)) : KInv p n rows 0 [] :=
  ⟨by simp, fun j h => by simp at h, fun j h => by simp at h, fun j h => by simp at h, fun i j _ h => by simp at h, fun j h => by simp at h, fun j h => by simp at h, fun i h => by omega⟩

/-- What comes of taking the first j kept rows off. -/
theorem less_inv {n k : Nat} {rows : List (List Int)} {K : List RF} {x : RF} (h0 : (0 : Int) < p) (h : KInv p n rows k K) (hx : GoodRow p n x.1) (hf : GoodRow p rows.length x.2) (j : Nat) (hj : j ≤ K.length) :
    GoodRow p n (lessF p (K.take j) x).1 ∧ GoodRow p rows.length (lessF p (K.take j) x).2 ∧ (∀ i, i < j → vec p (lessF p (K.take j) x).1 (ldN (gk K i).1) = 0) ∧
      ∃ c : Nat → Fin p, (∀ t, vec p (lessF p (K.take j) x).1 t = vec p x.1 t + sm (fun i => c i * kmat p K i t) j) ∧ (∀ t, vec p (lessF p (K.take j) x).2 t = vec p x.2 t + sm (fun i => c i * kfac p K i t) j) := by
  induction j with
  | zero =>
    refine ⟨by simpa [lessF] using hx, by simpa [lessF] using hf, fun i hi => by omega, fun _ => 0, fun t => ?_, fun t => ?_⟩
    · simp only [List.take_zero, lessF, List.foldl_nil, sm]; grind
    · simp only [List.take_zero, lessF, List.foldl_nil, sm]; grind
  | succ j ih =>
    obtain ⟨h1, h2, h3, c, h4, h5⟩ := ih (by omega)
    have hg := h.good j (by omega)
    rw [take_succ_gk (by omega), lessF_snoc]
    have hl1 : (lessF p (K.take j) x).1.length = (gk K j).1.length := by rw [h1.1, hg.1.1]
    have hl2 : (lessF p (K.take j) x).2.length = (gk K j).2.length := by rw [h2.1, hg.2.1]
    obtain ⟨b, hb⟩ : ∃ b, b = vec p (lessF p (K.take j) x).1 (ldN (gk K j).1) := ⟨_, rfl⟩
    have hv1 : ∀ t, vec p (offF p (lessF p (K.take j) x) (gk K j)).1 t = vec p (lessF p (K.take j) x).1 t + (-b) * kmat p K j t := fun t => by
      show vec p (addZ _ _ _ _) t = _
      rw [vec_add hl1, phi_neg, hb]; rfl
    have hv2 : ∀ t, vec p (offF p (lessF p (K.take j) x) (gk K j)).2 t = vec p (lessF p (K.take j) x).2 t + (-b) * kfac p K j t := fun t => by
      show vec p (addZ _ _ _ _) t = _
      rw [vec_add hl2, phi_neg, hb]; rfl
    refine ⟨h1.add h0 hg.1.1 _, h2.add h0 hg.2.1 _, fun i hi => ?_, fun i => if i < j then c i else -b, fun t => ?_, fun t => ?_⟩
    · rw [hv1]
      by_cases e : i = j
      · subst e
        rw [h.one i (by omega), ← hb]; grind
      · rw [h3 i (by omega), h.tri i j (by omega) (by omega)]; grind
    · rw [hv1, h4 t]
      simp only [sm]
      rw [sm_congr (f := fun i => (if i < j then c i else -b) * kmat p K i t) (g := fun i => c i * kmat p K i t) (fun i hi => by simp only [if_pos hi])]
      simp only [Nat.lt_irrefl, if_false]
      grind
    · rw [hv2, h5 t]
      simp only [sm]
      rw [sm_congr (f := fun i => (if i < j then c i else -b) * kfac p K i t) (g := fun i => c i * kfac p K i t) (fun i hi => by simp only [if_pos hi])]
      simp only [Nat.lt_irrefl, if_false]
      grind

/-- What is a sum of the kept rows and 0 at their leads is 0. -/
theorem KInv.zero_of {n k : Nat} {rows : List (List Int)} {K : List RF} (h : KInv p n rows k K) {v : Nat → Fin p} (hv : Span (kmat p K) K.length v) (h0 : ∀ i, i < K.length → v (ldN (gk K i).1) = 0) (t : Nat) : v t = 0 := by
  obtain ⟨c, hc⟩ := hv
  have key : ∀ i, i < K.length → c i = 0 := by
    intro i
    induction i using Nat.strongRecOn with
    | _ i ih =>
      intro hi
      have h1 := h0 i hi
      rw [hc, sm_single i hi (fun j hj hne => by
        by_cases hlt : j < i
        · rw [ih j hlt hj]; grind
        · rw [h.tri i j (by omega) hj]; grind), h.one i hi] at h1
      grind
  rw [hc t]
  exact sm_zero (fun i hi => by rw [key i hi]; grind)

/-- All kept rows are off. -/
structure LessR (p : Nat) [NeZero p] (n : Nat) (rows : List (List Int)) (K : List RF) (x y : RF) : Prop where
  good : GoodRow p n y.1 ∧ GoodRow p rows.length y.2
  zeros : ∀ i, i < K.length → vec p y.1 (ldN (gk K i).1) = 0
  bal : ∀ t, vec p y.1 t - sm (fun i => vec p y.2 i * mat p rows i t) rows.length = vec p x.1 t - sm (fun i => vec p x.2 i * mat p rows i t) rows.length
  supp : ∀ i, i < rows.length → Span (mat p rows) i (mat p rows i) → vec p x.2 i = 0 → vec p y.2 i = 0
  span : Span (kmat p K) K.length (fun t => vec p y.1 t - vec p x.1 t)

theorem KInv.less {n k : Nat} {rows : List (List Int)} {K : List RF} {x : RF} (h0 : (0 : Int) < p) (h : KInv p n rows k K) (hx : GoodRow p n x.1) (hf : GoodRow p rows.length x.2) : LessR p n rows K x (lessF p K x) := by
  obtain ⟨h1, h2, h3, c, h4, h5⟩ := less_inv h0 h hx hf K.length (Nat.le_refl _)
  rw [List.take_length] at h1 h2 h3 h4 h5
  refine ⟨⟨h1, h2⟩, h3, fun t => ?_, fun i hi hs hz => ?_, ⟨c, fun t => by
    show vec p (lessF p K x).1 t - vec p x.1 t = _
    rw [h4 t]; grind⟩⟩
  · have e : sm (fun i => vec p (lessF p K x).2 i * mat p rows i t) rows.length = sm (fun i => vec p x.2 i * mat p rows i t) rows.length + sm (fun i => c i * kmat p K i t) K.length := by
      rw [sm_congr (g := fun i => vec p x.2 i * mat p rows i t + sm (fun j => c j * (kfac p K j i * mat p rows i t)) K.length) (fun i _ => by
        rw [h5 i]
        have : sm (fun j => c j * (kfac p K j i * mat p rows i t)) K.length = mat p rows i t * sm (fun j => c j * kfac p K j i) K.length := by
          rw [← sm_mul]; exact sm_congr (fun j _ => by grind)
        rw [this]; grind), sm_add, sm_comm]
      congr 1
      exact sm_congr (fun j hj => by rw [sm_mul, ← h.told j hj t])
    rw [e, h4 t]; grind
  · rw [h5 i, hz, sm_zero (fun j hj => by rw [h.supp j hj i hi hs]; grind)]; grind

/-- What stays is not 0: it was no sum of the kept rows. -/
theorem LessR.out {n k : Nat} {rows : List (List Int)} {K : List RF} {x y : RF} (h : KInv p n rows k K) (hl : LessR p n rows K x y) (hy : 0 ≤ leadZ y.1) : ¬ Span (kmat p K) K.length (vec p x.1) := fun hs => by
  have h1 : Span (kmat p K) K.length (vec p y.1) := (hl.span.add hs).congr (fun t => by grind)
  exact (lead_some hl.good.1 hy).2.1 (h.zero_of h1 hl.zeros _)
/-- Nothing stays: it was one. -/
theorem LessR.in' {n k : Nat} {rows : List (List Int)} {K : List RF} {x y : RF} (h : KInv p n rows k K) (hl : LessR p n rows K x y) (hy : leadZ y.1 < 0) : Span (kmat p K) K.length (vec p x.1) :=
  (hl.span.smul (-1)).congr (fun t => by rw [lead_none hl.good.1 hy t]; grind)

/-- The k-th row with the factor 1 of its own. -/
def unitF (m k : Nat) : List Int := (List.replicate m 0).set k 1
omit [NeZero p] in
theorem unitF_good {m k : Nat} (h2 : 2 ≤ p) : GoodRow p m (unitF m k) := ⟨by simp [unitF], fun i hi => by
  unfold unitF
  rw [gi_set (by simpa using hi), gi_replicate]
  split <;> omega⟩
theorem unitF_vec {m k : Nat} {i : Nat} (hi : i < m) : vec p (unitF m k) i = if k = i then 1 else 0 := by
  unfold vec unitF
  rw [gi_set (by simpa using hi), gi_replicate]
  split
  · exact phi_one
  · exact phi_zero

theorem KInv.skip {n k : Nat} {rows : List (List Int)} {K : List RF} {y : RF} (h : KInv p n rows k K) (hl : LessR p n rows K (gr rows k, unitF rows.length k) y) (hy : leadZ y.1 < 0) : KInv p n rows (k + 1) K :=
  ⟨by have := h.few; omega, h.good, h.lead, h.one, h.tri, h.told, h.supp, fun i hi => by
    by_cases e : i = k
    · rw [e]; exact LessR.in' h hl hy
    · exact h.span i (by omega)⟩

/-- y with a leading 1. -/
def normF (q : Int) (y : RF) : RF := (addZ q y.1 (invZ q (gi y.1 (ldN y.1)) - 1) y.1, addZ q y.2 (invZ q (gi y.1 (ldN y.1)) - 1) y.2)

theorem KInv.keep (hp : Pr p) {n k : Nat} {rows : List (List Int)} {K : List RF} {y : RF} (h : KInv p n rows k K) (hk : k < rows.length) (hl : LessR p n rows K (gr rows k, unitF rows.length k) y) (hy : 0 ≤ leadZ y.1) : KInv p n rows (k + 1) (K ++ [normF p y]) := by
  have hpp := hp.pos
  obtain ⟨l1, l2, l3⟩ := lead_some hl.good.1 hy
  have hgl := hl.good.1.2 (ldN y.1) l1
  have hne : gi y.1 (ldN y.1) ≠ 0 := fun e => l2 ((vec_zero hl.good.1).2 e)
  obtain ⟨d, hd⟩ : ∃ d, d = phi p (invZ p (gi y.1 (ldN y.1))) := ⟨_, rfl⟩
  have hdi : vec p y.1 (ldN y.1) * d = 1 := by rw [hd]; exact phi_inv hp (by omega) hgl.2
  have hv1 : ∀ t, vec p (normF p y).1 t = d * vec p y.1 t := fun t => by
    show vec p (addZ _ _ _ _) t = _
    rw [vec_add rfl, phi_sub, phi_one, ← hd]; grind
  have hv2 : ∀ t, vec p (normF p y).2 t = d * vec p y.2 t := fun t => by
    show vec p (addZ _ _ _ _) t = _
    rw [vec_add rfl, phi_sub, phi_one, ← hd]; grind
  have hg1 : GoodRow p n (normF p y).1 := hl.good.1.add (by omega) hl.good.1.1 _
  have hg2 : GoodRow p rows.length (normF p y).2 := hl.good.2.add (by omega) hl.good.2.1 _
  have hd0 : d ≠ 0 := fun e => one_ne_zero hpp.1 (by rw [← hdi, e]; grind)
  have hlz : leadZ (normF p y).1 = ldN y.1 := lead_is hg1 l1 (by rw [hv1]; intro e; exact one_ne_zero hpp.1 (by rw [← hdi]; grind)) (fun t ht => by rw [hv1, l3 t ht]; grind)
  have hln : ldN (normF p y).1 = ldN y.1 := by unfold ldN at hlz ⊢; omega
  have htold : ∀ t, vec p y.1 t = sm (fun i => vec p y.2 i * mat p rows i t) rows.length := fun t => by
    have h1 := hl.bal t
    simp only at h1
    rw [sm_single (f := fun i => vec p (unitF rows.length k) i * mat p rows i t) k hk (fun i hi hne => by rw [unitF_vec hi, if_neg (fun e => hne e.symm)]; grind), unitF_vec hk, if_pos rfl] at h1
    have h2 : mat p rows k t = vec p (gr rows k) t := rfl
    rw [h2] at h1
    grind
  have hnew := LessR.out h hl hy
  have hsub : ∀ j, j < K.length → kmat p (K ++ [normF p y]) j = kmat p K j := fun j hj => by unfold kmat; rw [gk_snoc_lt hj]
  have hsubf : ∀ j, j < K.length → kfac p (K ++ [normF p y]) j = kfac p K j := fun j hj => by unfold kfac; rw [gk_snoc_lt hj]
  have hlast : kmat p (K ++ [normF p y]) K.length = vec p (normF p y).1 := by unfold kmat; rw [gk_snoc_eq rfl]
  have hlastf : kfac p (K ++ [normF p y]) K.length = vec p (normF p y).2 := by unfold kfac; rw [gk_snoc_eq rfl]
  have hlen : (K ++ [normF p y]).length = K.length + 1 := by simp
  have hmono : ∀ v, Span (kmat p K) K.length v → Span (kmat p (K ++ [normF p y])) (K ++ [normF p y]).length v := fun v hv => hv.mono (fun i hi => by rw [← hsub i hi]; exact Span.row _ (by omega))
  refine ⟨by have := h.few; omega, fun j hj => ?_, fun j hj => ?_, fun j hj => ?_, fun i j hij hj => ?_, fun j hj t => ?_, fun j hj i hi hs => ?_, fun i hi => ?_⟩
  · by_cases e : j < K.length
    · rw [gk_snoc_lt e]; exact h.good j e
    · rw [gk_snoc_eq (by omega)]; exact ⟨hg1, hg2⟩
  · by_cases e : j < K.length
    · rw [gk_snoc_lt e]; exact h.lead j e
    · rw [gk_snoc_eq (by omega), hlz]; omega
  · by_cases e : j < K.length
    · rw [hsub j e, gk_snoc_lt e]; exact h.one j e
    · obtain rfl : j = K.length := by omega
      rw [hlast, gk_snoc_eq rfl, hln, hv1]; grind
  · rw [gk_snoc_lt (by omega)]
    by_cases e : j < K.length
    · rw [hsub j e]; exact h.tri i j hij e
    · obtain rfl : j = K.length := by omega
      rw [hlast, hv1, hl.zeros i (by omega)]; grind
  · by_cases e : j < K.length
    · rw [hsub j e, hsubf j e]; exact h.told j e t
    · obtain rfl : j = K.length := by omega
      rw [hlast, hlastf, hv1, htold t, ← sm_mul]
      exact sm_congr (fun i _ => by rw [hv2]; grind)
  · by_cases e : j < K.length
    · rw [hsubf j e]; exact h.supp j e i hi hs
    · obtain rfl : j = K.length := by omega
      rw [hlastf, hv2]
      by_cases e2 : k = i
      · subst e2
        exfalso
        exact hnew (hs.mono (fun t ht => h.span t ht))
      · rw [hl.supp i hi hs (by rw [unitF_vec hi, if_neg e2])]; grind
  · by_cases e : i = k
    · subst e
      -- the row is the lead's number times the new one, less what was taken off
      have h1 : Span (kmat p (K ++ [normF p y])) (K ++ [normF p y]).length (vec p y.1) := by
        have h2 : Span (kmat p (K ++ [normF p y])) (K ++ [normF p y]).length (vec p (normF p y).1) := by rw [← hlast]; exact Span.row _ (by omega)
        refine (h2.smul (vec p y.1 (ldN y.1))).congr (fun t => ?_)
        rw [hv1]
        have : vec p y.1 (ldN y.1) * (d * vec p y.1 t) = (vec p y.1 (ldN y.1) * d) * vec p y.1 t := by grind
        rw [this, hdi]; grind
      refine (h1.sub (hmono _ hl.span)).congr (fun t => ?_)
      show vec p (gr rows i) t = _
      grind
    · exact hmono _ (h.span i (by omega))

/-- What the program answers. -/
def negF (q : Int) (f : List Int) : List Int := f.map (fun n => (-n) % q)
theorem negF_get (q : Int) {f : List Int} {i : Nat} (hi : i < f.length) : gi (negF q f) i = (-(gi f i)) % q := by
  rw [gi_lt (by simpa [negF] using hi), gi_lt hi]; simp [negF]

theorem impl_sol (hp : Pr p) {n : Nat} {rows : List (List Int)} {goal : List Int} {K : List RF} {y : RF} (h : KInv p n rows rows.length K) (hl : LessR p n rows K (goal, List.replicate rows.length 0) y) :
    SolR p rows goal (if 0 ≤ leadZ y.1 then none else some (negF p y.2)) := by
  have hpp := hp.pos
  split
  · rename_i hy
    intro hs
    exact LessR.out h hl hy (hs.mono (fun i hi => h.span i hi))
  · rename_i hy
    have hz : ∀ i, vec p (List.replicate rows.length 0) i = 0 := fun i => by unfold vec; rw [gi_replicate, phi_zero]
    have hgf : GoodRow p rows.length (negF p y.2) := ⟨by simp [negF]; exact hl.good.2.1, fun i hi => by
      rw [negF_get _ (by rw [hl.good.2.1]; exact hi)]
      exact ⟨Int.emod_nonneg _ (by omega), Int.emod_lt_of_pos _ (by omega)⟩⟩
    have hv : ∀ i, i < rows.length → vec p (negF p y.2) i = - vec p y.2 i := fun i hi => by
      unfold vec
      rw [negF_get _ (by rw [hl.good.2.1]; exact hi), phi_emod, phi_neg]
    refine ⟨hgf, fun t => ?_, fun i hi hs => ?_⟩
    · have h1 := hl.bal t
      simp only at h1
      rw [lead_none hl.good.1 (by omega) t, sm_zero (f := fun i => vec p (List.replicate rows.length 0) i * mat p rows i t) (fun i _ => by rw [hz]; grind)] at h1
      rw [sm_congr (g := fun i => (-1) * (vec p y.2 i * mat p rows i t)) (fun i hi => by rw [hv i hi]; grind), sm_mul]
      grind
    · rw [← vec_zero hgf, hv i hi, hl.supp i hi hs (hz i)]; grind
end
end Go.Proofs.YtcdbeepphdfipaaGreatDoor

namespace Go.Proofs.YtcdbeepphdfipaaGreatDoor
open Go.RowKit
set_option linter.unusedVariables false

/-- The t-th message of k numbers below q. -/
def dg (q t e : Nat) : Nat := t / q ^ e % q
def msg (q k t : Nat) : List Int := tab k (fun i => ((dg q t (k - 1 - i) : Nat) : Int))
theorem msg_length (q k t : Nat) : (msg q k t).length = k := tab_length _ _
theorem msg_get {q k t i : Nat} (hi : i < k) : gi (msg q k t) i = (dg q t (k - 1 - i) : Int) := tab_get hi
theorem dg_lt {q t e : Nat} (hq : 0 < q) : dg q t e < q := Nat.mod_lt _ hq
theorem msg_good {q k t : Nat} (hq : 0 < q) : GoodRow q k (msg q k t) :=
  ⟨msg_length _ _ _, fun i hi => by rw [msg_get hi]; have := dg_lt (t := t) (e := k - 1 - i) hq; omega⟩

theorem msg_snoc {q k i x : Nat} (hx : x < q) : msg q (k + 1) (i * q + x) = msg q k i ++ [(x : Int)] := by
  refine ext_gi (by rw [msg_length, List.length_append, msg_length]; rfl) (fun j hj => ?_)
  rw [msg_length] at hj
  rw [msg_get hj]
  by_cases h : j < k
  · have e1 : gi (msg q k i ++ [(x : Int)]) j = gi (msg q k i) j := by
      rw [gi_lt (by rw [List.length_append, msg_length]; simp; omega), gi_lt (by rw [msg_length]; exact h), List.getElem_append_left (by rw [msg_length]; exact h)]
    rw [e1, msg_get h]
    unfold dg
    have e2 : k + 1 - 1 - j = (k - 1 - j) + 1 := by omega
    rw [e2, Nat.pow_succ, Nat.mul_comm (q ^ (k - 1 - j)) q, ← Nat.div_div_eq_div_mul, Nat.mul_comm i q, Nat.mul_add_div (by omega), Nat.div_eq_of_lt hx, Nat.add_zero]
  · obtain rfl : j = k := by omega
    have e1 : gi (msg q j i ++ [(x : Int)]) j = x := by
      rw [gi_lt (by rw [List.length_append, msg_length]; simp)]
      have hl := msg_length q j i
      rw [List.getElem_append_right (by omega)]
      simp [hl]
    rw [e1]
    unfold dg
    have e2 : j + 1 - 1 - j = 0 := by omega
    rw [e2, Nat.pow_zero, Nat.div_one, Nat.mul_comm i q, Nat.mul_add_mod, Nat.mod_eq_of_lt hx]

theorem msg_zero (q t : Nat) : msg q 0 t = [] := rfl

/-- Where all the last j digits are the greatest. -/
theorem carry {q j t : Nat} (hq : 0 < q) (h : (t + 1) % q ^ j = 0) : t + 1 = (t / q ^ j + 1) * q ^ j := by
  have hp : 0 < q ^ j := Nat.pow_pos hq
  obtain ⟨c, hc⟩ := Nat.dvd_of_mod_eq_zero h
  cases c with
  | zero => omega
  | succ d =>
    have h1 : t = q ^ j * d + (q ^ j - 1) := by rw [Nat.mul_succ] at hc; omega
    have h2 : t / q ^ j = d := by
      have := Nat.mul_add_div hp d (q ^ j - 1)
      rw [Nat.div_eq_of_lt (show q ^ j - 1 < q ^ j by omega)] at this
      rw [h1]; omega
    rw [h2, hc, Nat.mul_comm]

theorem carry_on {q j t : Nat} (hq : 0 < q) (h : (t + 1) % q ^ j = 0) (hd : dg q t j = q - 1) : (t + 1) % q ^ (j + 1) = 0 := by
  have h1 := carry hq h
  unfold dg at hd
  obtain ⟨u, hu⟩ : ∃ u, u = t / q ^ j := ⟨_, rfl⟩
  rw [← hu] at h1 hd
  have h2 : u + 1 = q * (u / q + 1) := by have := Nat.div_add_mod u q; rw [hd] at this; rw [Nat.mul_add]; omega
  rw [h1, h2, Nat.pow_succ, Nat.mul_comm (q ^ j) q, Nat.mul_assoc, Nat.mul_comm (u / q + 1), ← Nat.mul_assoc]
  exact Nat.mul_mod_right _ _

theorem succ_div_same {q u : Nat} (hq : 0 < q) (h : u % q ≠ q - 1) : (u + 1) / q = u / q := by
  have h1 := Nat.div_add_mod u q
  have h2 := Nat.mod_lt u hq
  have h3 : u + 1 = q * (u / q) + (u % q + 1) := by omega
  rw [h3, Nat.mul_add_div hq, Nat.div_eq_of_lt (show u % q + 1 < q by omega), Nat.add_zero]

/-- The digits of the next number. -/
theorem dg_next {q j t : Nat} (hq : 0 < q) (h : (t + 1) % q ^ j = 0) (hd : dg q t j ≠ q - 1) (e : Nat) :
    dg q (t + 1) e = if e < j then 0 else if e = j then dg q t j + 1 else dg q t e := by
  have h1 := carry hq h
  unfold dg at hd
  by_cases c : e < j
  · rw [if_pos c]
    unfold dg
    obtain ⟨d, rfl⟩ : ∃ d, j = e + 1 + d := ⟨j - e - 1, by omega⟩
    rw [h1, Nat.pow_add, Nat.pow_succ]
    have hp : 0 < q ^ e := Nat.pow_pos hq
    have : (t / (q ^ e * q * q ^ d) + 1) * (q ^ e * q * q ^ d) = q ^ e * (q * ((t / (q ^ e * q * q ^ d) + 1) * q ^ d)) := by
      simp only [Nat.mul_assoc, Nat.mul_comm, Nat.mul_left_comm]
    rw [this, Nat.mul_div_cancel_left _ hp]
    exact Nat.mul_mod_right _ _
  · rw [if_neg c]
    have hp : 0 < q ^ j := Nat.pow_pos hq
    by_cases c2 : e = j
    · subst e
      rw [if_pos rfl]
      unfold dg
      have h2 : (t + 1) / q ^ j = t / q ^ j + 1 := by rw [h1]; exact Nat.mul_div_cancel _ hp
      rw [h2]
      have h3 := Nat.div_add_mod (t / q ^ j) q
      have h4 := Nat.mod_lt (t / q ^ j) hq
      have h5 : t / q ^ j + 1 = q * (t / q ^ j / q) + (t / q ^ j % q + 1) := by omega
      rw [h5, Nat.mul_add_mod, Nat.mod_eq_of_lt (by omega)]
    · rw [if_neg c2]
      unfold dg
      obtain ⟨d, rfl⟩ : ∃ d, e = j + (d + 1) := ⟨e - j - 1, by omega⟩
      have h2 : (t + 1) / q ^ j = t / q ^ j + 1 := by rw [h1]; exact Nat.mul_div_cancel _ hp
      rw [Nat.pow_add, ← Nat.div_div_eq_div_mul, ← Nat.div_div_eq_div_mul, h2, Nat.pow_succ, Nat.mul_comm (q ^ d) q, ← Nat.div_div_eq_div_mul, ← Nat.div_div_eq_div_mul, succ_div_same hq hd]

/-- The t-th message, of which the last j numbers have been put back to 0. -/
def msgMid (q k t j : Nat) : List Int := tab k (fun i => if i + j < k then ((dg q t (k - 1 - i) : Nat) : Int) else 0)
theorem msgMid_zero (q k t : Nat) : msgMid q k t 0 = msg q k t := tab_congr (fun i hi => by rw [if_pos (by omega)])
theorem msgMid_next {q k t j : Nat} (hj : j < k) : (msgMid q k t j).set (k - 1 - j) 0 = msgMid q k t (j + 1) :=
  tab_set (fun _ => by rw [if_neg (by omega)]) (fun i hi hne => by
    by_cases c : i + j < k
    · rw [if_pos c, if_pos (by omega)]
    · rw [if_neg c, if_neg (by omega)])
theorem msgMid_get {q k t j : Nat} (hj : j < k) : gi (msgMid q k t j) (k - 1 - j) = (dg q t j : Int) := by
  unfold msgMid
  rw [tab_get (by omega), if_pos (by omega), show k - 1 - (k - 1 - j) = j by omega]
theorem msgMid_done {q k t j : Nat} (hq : 0 < q) (hj : j < k) (h : (t + 1) % q ^ j = 0) (hd : dg q t j ≠ q - 1) : (msgMid q k t j).set (k - 1 - j) ((dg q t j : Int) + 1) = msg q k (t + 1) :=
  tab_set (fun _ => by rw [show k - 1 - (k - 1 - j) = j by omega, dg_next hq h hd, if_neg (by omega), if_pos rfl]; omega) (fun i hi hne => by
    rw [dg_next hq h hd]
    by_cases c : i + j < k
    · rw [if_pos c, if_neg (by omega), if_neg (by omega)]
    · rw [if_neg c, if_pos (by omega)]; rfl)
theorem msg_last {q k t : Nat} (hq : 0 < q) (ht : t < q ^ k) (h : (t + 1) % q ^ k = 0) : t + 1 = q ^ k := by
  by_cases e : t + 1 < q ^ k
  · rw [Nat.mod_eq_of_lt e] at h; omega
  · omega
theorem dg_mod_top {q k t j : Nat} (hq : 0 < q) (hj : dg q t j < q) : dg q t j ≤ q - 1 := by omega

/-- Each list of k numbers below q is one of the messages. -/
theorem msg_onto {q : Nat} (hq : 0 < q) : ∀ {k : Nat} {x : List Int}, GoodRow q k x → ∃ t, t < q ^ k ∧ msg q k t = x
  | 0, x, h => ⟨0, by simp, by have := h.1; rw [msg_zero]; exact (List.eq_nil_of_length_eq_zero this).symm⟩
  | k + 1, x, h => by
    have hl := h.1
    have hk := h.2 k (by omega)
    have hg : GoodRow q k (x.take k) := ⟨by rw [List.length_take]; omega, fun i hi => by
      have e : gi (x.take k) i = gi x i := by rw [gi_lt (by rw [List.length_take]; omega), gi_lt (by omega), List.getElem_take]
      rw [e]; exact h.2 i (by omega)⟩
    obtain ⟨t, ht, he⟩ := msg_onto hq hg
    obtain ⟨y, hy⟩ : ∃ y : Nat, gi x k = y := ⟨(gi x k).toNat, by omega⟩
    refine ⟨t * q + y, ?_, ?_⟩
    · rw [Nat.pow_succ]
      have : (t + 1) * q ≤ q ^ k * q := Nat.mul_le_mul_right q (by omega)
      rw [Nat.add_mul] at this
      omega
    · rw [msg_snoc (by omega), he, ← hy]
      refine ext_gi (by rw [List.length_append, List.length_take]; simp; omega) (fun i hi => ?_)
      by_cases c : i < k
      · rw [gi_lt hi, List.getElem_append_left (by rw [List.length_take]; omega), List.getElem_take, gi_lt (by omega)]
      · obtain rfl : i = k := by rw [List.length_append, List.length_take] at hi; simp at hi; omega
        rw [gi_lt hi, List.getElem_append_right (by rw [List.length_take]; omega)]
        simp
theorem msg_inj {q : Nat} (hq : 0 < q) : ∀ {k t u : Nat}, t < q ^ k → u < q ^ k → msg q k t = msg q k u → t = u
  | 0, t, u, h, h', _ => by simp at h h'; omega
  | k + 1, t, u, h, h', e => by
    rw [Nat.pow_succ] at h h'
    have e1 : msg q (k + 1) t = msg q k (t / q) ++ [((t % q : Nat) : Int)] := by
      rw [← msg_snoc (Nat.mod_lt _ hq), Nat.mul_comm, Nat.div_add_mod]
    have e2 : msg q (k + 1) u = msg q k (u / q) ++ [((u % q : Nat) : Int)] := by
      rw [← msg_snoc (Nat.mod_lt _ hq), Nat.mul_comm, Nat.div_add_mod]
    rw [e1, e2] at e
    have h1 := List.append_inj e (by rw [msg_length, msg_length])
    have h2 := msg_inj hq ((Nat.div_lt_iff_lt_mul hq).2 h) ((Nat.div_lt_iff_lt_mul hq).2 h') h1.1
    have h3 : t % q = u % q := by have := h1.2; simp at this; omega
    have h4 := Nat.div_add_mod t q
    have h5 := Nat.div_add_mod u q
    rw [← h4, ← h5, h2, h3]
end Go.Proofs.YtcdbeepphdfipaaGreatDoor

namespace Go.Proofs.YtcdbeepphdfipaaGreatDoor
open Go.RowKit Mat
set_option linter.unusedVariables false

section
variable {p : Nat} [NeZero p]

theorem IsRed.exists (hp : Pr p) {n : Nat} {R : List (List Int)} (h : GoodRows p n R) : ∃ out, IsRed p n R out := by
  have key : ∀ c, c ≤ n → ∃ a at' ld, Inv2 p n R a at' c ld := by
    intro c
    induction c with
    | zero => intro _; exact ⟨R, 0, _, Inv2.start h⟩
    | succ c ih =>
      intro hc
      obtain ⟨a, at', ld, hi⟩ := ih (by omega)
      by_cases hex : ∃ q, at' ≤ q ∧ q < a.length ∧ gi (gr a q) c ≠ 0
      · obtain ⟨q, h1, h2, h3⟩ := hex
        exact ⟨_, _, _, Inv2.pick hp hi (by omega) h1 h2 h3⟩
      · exact ⟨a, at', ld, hi.skip (fun j h1 h2 => by
          apply Classical.byContradiction
          intro h3
          exact hex ⟨j, h1, h2, h3⟩)⟩
  obtain ⟨a, at', ld, hi⟩ := key n (Nat.le_refl _)
  exact ⟨_, hi.done hp⟩

/-- The span of the first m rows has dimension d. -/
def Dim (R : Nat → Nat → Fin p) (m d : Nat) : Prop := ∃ B : Nat → Nat → Fin p, Ind B d ∧ (∀ i, i < d → Span R m (B i)) ∧ ∀ i, i < m → Span B d (R i)
theorem Dim.unique (hp : Pr p) {R : Nat → Nat → Fin p} {m d e : Nat} (h : Dim R m d) (h' : Dim R m e) : d = e := by
  obtain ⟨B, b1, b2, b3⟩ := h
  obtain ⟨C, c1, c2, c3⟩ := h'
  have h1 := dim_le hp (fun i hi => (b2 i hi).mono c3) b1
  have h2 := dim_le hp (fun i hi => (c2 i hi).mono b3) c1
  omega
theorem IsRed.dim {n : Nat} {R out : List (List Int)} (h : IsRed p n R out) : Dim (mat p R) R.length out.length :=
  ⟨mat p out, RR.ind h.inv.rr, fun i hi => (h.inv.span _).2 (Span.row _ hi), fun i hi => (h.inv.span _).1 (Span.row _ hi)⟩
/-- More than d independent ones: none. -/
theorem Dim.le (hp : Pr p) {R T : Nat → Nat → Fin p} {m d k : Nat} (h : Dim R m d) (hs : ∀ i, i < k → Span R m (T i)) (hi : Ind T k) : k ≤ d := by
  obtain ⟨B, b1, b2, b3⟩ := h
  exact dim_le hp (fun i h => (hs i h).mono b3) hi

/-- Some numbers of v, at other places. -/
def pk (P : Nat → Bool) (f : Nat → Nat) (v : Nat → Fin p) : Nat → Fin p := fun k => if P k then v (f k) else 0
theorem pk_sum (P : Nat → Bool) (f : Nat → Nat) {R : Nat → Nat → Fin p} {m : Nat} {c : Nat → Fin p} {v : Nat → Fin p} (h : ∀ k, v k = sm (fun i => c i * R i k) m) (k : Nat) : pk P f v k = sm (fun i => c i * pk P f (R i) k) m := by
  unfold pk
  by_cases hP : P k = true
  · simp only [hP, if_true]; rw [h]
  · simp only [if_neg hP]
    rw [sm_zero (fun i _ => by grind)]
theorem Span.pk {P : Nat → Bool} {f : Nat → Nat} {R : Nat → Nat → Fin p} {m : Nat} {v : Nat → Fin p} (h : Span R m v) : Span (fun i => Go.Proofs.YtcdbeepphdfipaaGreatDoor.pk P f (R i)) m (Go.Proofs.YtcdbeepphdfipaaGreatDoor.pk P f v) := by
  obtain ⟨c, hc⟩ := h
  exact ⟨c, fun k => pk_sum P f hc k⟩
theorem Dim.pk {P : Nat → Bool} {f : Nat → Nat} {R : Nat → Nat → Fin p} {m d : Nat} (h : Dim R m d) (hinj : ∀ v, Span R m v → (∀ k, Go.Proofs.YtcdbeepphdfipaaGreatDoor.pk P f v k = 0) → ∀ k, v k = 0) : Dim (fun i => Go.Proofs.YtcdbeepphdfipaaGreatDoor.pk P f (R i)) m d := by
  obtain ⟨B, b1, b2, b3⟩ := h
  refine ⟨fun i => Go.Proofs.YtcdbeepphdfipaaGreatDoor.pk P f (B i), fun c hc => ?_, fun i hi => Go.Proofs.YtcdbeepphdfipaaGreatDoor.Span.pk (b2 i hi), fun i hi => Go.Proofs.YtcdbeepphdfipaaGreatDoor.Span.pk (b3 i hi)⟩
  refine b1 c (hinj (fun k => sm (fun i => c i * B i k) d) (Span.sum B c d b2) (fun k => ?_))
  rw [pk_sum P f (R := B) (c := c) (m := d) (fun _ => rfl) k]
  exact hc k

/-- The numbers of the columns in s, 0 at all others. -/
def inS (s n : Nat) (k : Nat) : Bool := decide (k < n ∧ bitN s k = 1)
def mskR (p : Nat) [NeZero p] (s n : Nat) (rows : List (List Int)) : Nat → Nat → Fin p := fun i => pk (inS s n) (fun k => k) (mat p rows i)

theorem sel_at {s : Nat} {row : List Int} {k : Nat} (hb : bitN s k = 1) : ∀ {m : Nat}, k < m → gi (selTo s row m) (wtN s k) = gi row k := by
  intro m
  induction m with
  | zero => intro h; omega
  | succ m ih =>
    intro h
    have hl := selTo_length s row m
    by_cases e : k = m
    · subst e
      rw [selTo, if_pos hb, gi_snoc, if_neg (by omega), if_pos (by omega)]
    · have h1 := ih (by omega)
      have hlt : wtN s k < wtN s m := by
        have : ∀ j, k + 1 ≤ j → wtN s k < wtN s j := by
          intro j
          induction j with
          | zero => intro h; omega
          | succ j ihj =>
            intro hj
            by_cases e2 : k = j
            · subst e2; simp only [wtN]; omega
            · have := ihj (by omega); simp only [wtN]; omega
        exact this m (by omega)
      by_cases c : bitN s m = 1
      · rw [selTo, if_pos c, gi_snoc, if_pos (by omega)]; exact h1
      · rw [selTo, if_neg c]; exact h1
theorem sel_hit (s : Nat) : ∀ (n : Nat) (j : Nat), j < wtN s n → ∃ k, k < n ∧ bitN s k = 1 ∧ wtN s k = j
  | 0, j, h => by simp [wtN] at h
  | n + 1, j, h => by
    have hb : bitN s n = 0 ∨ bitN s n = 1 := by unfold bitN; omega
    simp only [wtN] at h
    by_cases c : j < wtN s n
    · obtain ⟨k, h1, h2, h3⟩ := sel_hit s n j c
      exact ⟨k, by omega, h2, h3⟩
    · exact ⟨n, by omega, by omega, by omega⟩

/-- The rank of the chosen columns is the dimension of the rows with noughts elsewhere. -/
theorem msk_dim {n s : Nat} {rows : List (List Int)} {out : List (List Int)} (hg : GoodRows p n rows) (h : IsRed p (wtN s n) (rows.map (sel s)) out) : Dim (mskR p s n rows) rows.length out.length := by
  have hd := h.dim
  rw [List.length_map] at hd
  have e : ∀ i, i < rows.length → ∀ k, mskR p s n rows i k = pk (inS s n) (wtN s) (mat p (rows.map (sel s)) i) k := fun i hi k => by
    unfold mskR pk
    by_cases c : inS s n k = true
    · simp only [c, if_true]
      simp only [inS, decide_eq_true_eq] at c
      show vec p (gr rows i) k = vec p (gr (rows.map (sel s)) i) (wtN s k)
      unfold vec
      rw [gr_map hi]
      show _ = phi p (gi (selTo s (gr rows i) (gr rows i).length) (wtN s k))
      rw [sel_at c.2 (by rw [(hg i hi).1]; exact c.1)]
    · simp only [if_neg c]
  have hd2 := hd.pk (P := inS s n) (f := wtN s) (fun v hv h0 j => by
    obtain ⟨c, hc⟩ := hv
    by_cases hj : j < wtN s n
    · obtain ⟨k, h1, h2, h3⟩ := sel_hit s n j hj
      have := h0 k
      unfold pk at this
      have hin : inS s n k = true := by simp [inS, h1, h2]
      rw [hin, h3] at this
      simpa using this
    · rw [hc j]
      refine sm_zero (fun i hi => ?_)
      have : mat p (rows.map (sel s)) i j = 0 := vec_ge (by rw [(selRows_good s hg i (by rw [List.length_map]; exact hi)).1]; omega)
      rw [this]; grind)
  obtain ⟨B, b1, b2, b3⟩ := hd2
  exact ⟨B, b1, fun i hi => (b2 i hi).mono (fun t ht => (Span.row (mskR p s n rows) ht).congr (fun k => (e t ht k).symm)), fun i hi => (b3 i hi).congr (fun k => e i hi k)⟩

/-- The column i. -/
def colN (rows : List (List Int)) (i : Nat) : List Int := tab rows.length (fun r => gi (gr rows r) i)
/-- The columns in s of the first k. -/
def colsTo (rows : List (List Int)) (s : Nat) : Nat → List (List Int)
  | 0 => []
  | k + 1 => if bitN s k = 1 then colsTo rows s k ++ [colN rows k] else colsTo rows s k
theorem colsTo_length (rows : List (List Int)) (s k : Nat) : (colsTo rows s k).length = wtN s k := by
  induction k with
  | zero => rfl
  | succ k ih =>
    have hb : bitN s k = 0 ∨ bitN s k = 1 := by unfold bitN; omega
    rcases hb with h | h
    · simp [colsTo, wtN, h, ih]
    · simp [colsTo, wtN, h, ih]
theorem gr_app {R : List (List Int)} {x : List Int} {i : Nat} : i < R.length → gr (R ++ [x]) i = gr R i := fun h => gr_snoc_lt h
theorem cols_at {rows : List (List Int)} {s k : Nat} (hb : bitN s k = 1) : ∀ {m : Nat}, k < m → gr (colsTo rows s m) (wtN s k) = colN rows k := by
  intro m
  induction m with
  | zero => intro h; omega
  | succ m ih =>
    intro h
    have hl := colsTo_length rows s m
    by_cases e : k = m
    · subst e
      rw [colsTo, if_pos hb, gr_snoc_eq (by omega)]
    · have h1 := ih (by omega)
      have hlt : wtN s k < wtN s m := by
        have : ∀ j, k + 1 ≤ j → wtN s k < wtN s j := by
          intro j
          induction j with
          | zero => intro h; omega
          | succ j ihj =>
            intro hj
            by_cases e2 : k = j
            · subst e2; simp only [wtN]; omega
            · have := ihj (by omega); simp only [wtN]; omega
        exact this m (by omega)
      by_cases c : bitN s m = 1
      · rw [colsTo, if_pos c, gr_snoc_lt (by omega)]; exact h1
      · rw [colsTo, if_neg c]; exact h1
theorem colN_good {q : Int} {n : Nat} {rows : List (List Int)} (hg : GoodRows q n rows) {i : Nat} (hi : i < n) : GoodRow q rows.length (colN rows i) :=
  ⟨tab_length _ _, fun r hr => by unfold colN; rw [tab_get hr]; exact (hg r hr).2 i hi⟩
theorem cols_good {q : Int} {n : Nat} {rows : List (List Int)} {s : Nat} (hg : GoodRows q n rows) : ∀ k, k ≤ n → GoodRows q rows.length (colsTo rows s k)
  | 0, _ => fun i hi => by simp [colsTo] at hi
  | k + 1, hk => by
    unfold colsTo
    split
    · intro i hi
      by_cases c : i < (colsTo rows s k).length
      · rw [gr_snoc_lt c]; exact cols_good hg k (by omega) i c
      · rw [List.length_append, List.length_singleton] at hi
        rw [gr_snoc_eq (by omega)]; exact colN_good hg (by omega)
    · exact cols_good hg k (by omega)

/-- The column i is a sum of those in s. -/
def HelpC (p : Nat) [NeZero p] (rows : List (List Int)) (n s i : Nat) : Prop := Span (mat p (colsTo rows s n)) (wtN s n) (vec p (colN rows i))

theorem vec_colN {rows : List (List Int)} {i r : Nat} (hr : r < rows.length) : vec p (colN rows i) r = mat p rows r i := by
  unfold vec colN
  rw [tab_get hr]; rfl

theorem help_rank (hp : Pr p) {n s i : Nat} {rows o1 o2 : List (List Int)} (hg : GoodRows p n rows) (hi : i < n) (hb : bitN s i = 0) {s' : Nat} (hs' : ∀ k, k < n → bitN s' k = if k = i then 1 else bitN s k)
    (h1 : IsRed p (wtN s n) (rows.map (sel s)) o1) (h2 : IsRed p (wtN s' n) (rows.map (sel s')) o2) : HelpC p rows n s i ↔ o1.length = o2.length := by
  have d1 := msk_dim hg h1
  have d2 := msk_dim hg h2
  have hin : ∀ k, inS s' n k = (inS s n k || decide (k = i)) := fun k => by
    unfold inS
    by_cases hk : k < n
    · rw [hs' k hk]
      by_cases e : k = i
      · subst e; simp [hk]
      · simp [hk, e]
    · have : k ≠ i := by omega
      simp [hk, this]
  have hres : ∀ r k, mskR p s n rows r k = pk (inS s n) (fun k => k) (mskR p s' n rows r) k := fun r k => by
    unfold mskR pk
    by_cases c : inS s n k = true
    · rw [hin k]; simp [c]
    · simp [c]
  constructor
  · -- a sum of the others: nothing is lost without it
    rintro ⟨c, hc⟩
    have d3 := d2.pk (P := inS s n) (f := fun k => k) (fun v hv h0 k => by
      obtain ⟨y, hy⟩ := hv
      by_cases hk : k = i
      · subst hk
        -- v at i is the sum of y_r R_r i
        have e1 : ∀ r, r < rows.length → mskR p s' n rows r k = sm (fun j => c j * mat p (colsTo rows s n) j r) (wtN s n) := fun r hr => by
          rw [← hc r, vec_colN hr]
          unfold mskR pk
          rw [hin k]; simp
        rw [hy k, sm_congr (g := fun r => sm (fun j => c j * (y r * mat p (colsTo rows s n) j r)) (wtN s n)) (fun r hr => by
          rw [e1 r hr, ← sm_mul]; exact sm_congr (fun j _ => by grind)), sm_comm]
        refine sm_zero (fun j hj => ?_)
        rw [sm_mul]
        obtain ⟨t, ht, hbt, hwt⟩ := sel_hit s n j hj
        have e2 : sm (fun r => y r * mat p (colsTo rows s n) j r) rows.length = v t := by
          rw [hy t]
          refine sm_congr (fun r hr => ?_)
          have : mat p (colsTo rows s n) j r = mskR p s' n rows r t := by
            show vec p (gr (colsTo rows s n) j) r = _
            rw [← hwt, cols_at hbt ht, vec_colN hr]
            unfold mskR pk
            rw [hin t]; simp [inS, ht, hbt]
          rw [this]
        have e3 := h0 t
        unfold pk at e3
        have : inS s n t = true := by simp [inS, ht, hbt]
        rw [this] at e3
        simp only [if_true] at e3
        rw [e2, e3]; grind
      · have := h0 k
        unfold pk at this
        by_cases c2 : inS s n k = true
        · rw [c2] at this; simpa using this
        · rw [hy k]
          refine sm_zero (fun r _ => ?_)
          have : mskR p s' n rows r k = 0 := by unfold mskR pk; rw [hin k]; simp [c2, hk]
          rw [this]; grind)
    have d4 : Dim (mskR p s n rows) rows.length o2.length := by
      obtain ⟨B, b1, b2, b3⟩ := d3
      exact ⟨B, b1, fun j hj => (b2 j hj).mono (fun t ht => (Span.row (mskR p s n rows) ht).congr (fun k => (hres t k).symm)), fun j hj => (b3 j hj).congr (fun k => hres j k)⟩
    exact d1.unique hp d4
  · -- no sum of the others: it raises the rank
    intro hlen
    apply Classical.byContradiction
    intro hno
    have hcg := cols_good (s := s) hg n (Nat.le_refl _)
    have hig := colN_good hg hi
    have hag := augAll_good hcg hig
    obtain ⟨a, ha⟩ := IsRed.exists hp hag
    have hsol := spec_sol hp hcg hig ha
    have hcl := colsTo_length rows s n
    by_cases hld : 0 ≤ ldIx a (colsTo rows s n).length a.length
    · have hbd := ldIx_bounds a (colsTo rows s n).length a.length
      have hl := hbd.2.2 hld
      obtain ⟨t, ht⟩ : ∃ t, t = (ldIx a (colsTo rows s n).length a.length).toNat := ⟨_, rfl⟩
      have hta : t < a.length := by omega
      rw [← ht] at hl
      -- a sum of rows with noughts in s and not in i
      obtain ⟨y, hy⟩ := (ha.inv.span _).2 (Span.row (mat p a) hta)
      rw [augAll_length, hig.1] at hy
      have haug : ∀ r, r < rows.length → ∀ k, k < (colsTo rows s n).length + 1 → mat p (augAll (colsTo rows s n) (colN rows i)) r k = if k < (colsTo rows s n).length then mat p (colsTo rows s n) k r else mat p rows r i := fun r hr k hk => by
        show vec p (gr (augAll (colsTo rows s n) (colN rows i)) r) k = _
        rw [augAll_get _ _ (by rw [hig.1]; exact hr)]
        unfold vec augRow
        rw [tab_get hk]
        split
        · rfl
        · show phi p (gi (colN rows i) r) = phi p (gi (gr rows r) i)
          unfold colN
          rw [tab_get hr]
      have hz : ∀ k, k < n → bitN s k = 1 → sm (fun r => y r * mat p rows r k) rows.length = 0 := fun k hk hbk => by
        have hwk : wtN s k < (colsTo rows s n).length := by
          rw [hcl]
          have : ∀ j, k + 1 ≤ j → wtN s k < wtN s j := by
            intro j
            induction j with
            | zero => intro h; omega
            | succ j ihj =>
              intro hj
              by_cases e2 : k = j
              · subst e2; simp only [wtN]; omega
              · have := ihj (by omega); simp only [wtN]; omega
          exact this n (by omega)
        have h3 := hy (wtN s k)
        rw [ha.inv.rr.front t (wtN s k) hta (by rw [hl]; exact hwk)] at h3
        rw [h3]
        refine sm_congr (fun r hr => ?_)
        rw [haug r hr _ (by omega), if_pos hwk]
        show _ = y r * vec p (gr (colsTo rows s n) (wtN s k)) r
        rw [cols_at hbk hk, vec_colN hr]
      have hone : sm (fun r => y r * mat p rows r i) rows.length = 1 := by
        have h3 := hy (colsTo rows s n).length
        have h4 := ha.inv.rr.unit t t hta hta
        rw [if_pos rfl, hl] at h4
        rw [h4] at h3
        rw [h3]
        refine sm_congr (fun r hr => ?_)
        rw [haug r hr _ (by omega), if_neg (by omega)]
      -- so it is independent of what is told in s
      obtain ⟨B, b1, b2, b3⟩ := d1
      have hch : ∀ j, ∃ z : Nat → Fin p, j < o1.length → ∀ k, B j k = sm (fun r => z r * mskR p s n rows r k) rows.length := fun j => by
        by_cases hj : j < o1.length
        · obtain ⟨z, hz⟩ := b2 j hj; exact ⟨z, fun _ => hz⟩
        · exact ⟨fun _ => 0, fun h => absurd h hj⟩
      obtain ⟨Z, hZ⟩ := Classical.axiomOfChoice hch
      have hbig := d2.le hp (k := o1.length + 1) (T := fun j k => if j < o1.length then sm (fun r => Z j r * mskR p s' n rows r k) rows.length else sm (fun r => y r * mskR p s' n rows r k) rows.length) (fun j hj => by
        by_cases c : j < o1.length
        · exact ⟨Z j, fun k => by simp only [if_pos c]⟩
        · exact ⟨y, fun k => by simp only [if_neg c]⟩) (fun c hc => by
        simp only [sm] at hc
        have hc' : ∀ k, sm (fun j => c j * sm (fun r => Z j r * mskR p s' n rows r k) rows.length) o1.length + c o1.length * sm (fun r => y r * mskR p s' n rows r k) rows.length = 0 := fun k => by
          have := hc k
          rw [sm_congr (g := fun j => c j * sm (fun r => Z j r * mskR p s' n rows r k) rows.length) (fun j hj => by simp only [if_pos hj])] at this
          simpa using this
        have hcj : ∀ j, j < o1.length → c j = 0 := by
          refine b1 c (fun k => ?_)
          by_cases hk : inS s n k = true
          · have h3 := hc' k
            have hkk : k < n ∧ bitN s k = 1 := by simpa [inS] using hk
            have e1 : sm (fun r => y r * mskR p s' n rows r k) rows.length = 0 := by
              rw [← hz k hkk.1 hkk.2]
              refine sm_congr (fun r _ => ?_)
              unfold mskR pk
              rw [hin k]; simp [hk]
            rw [e1] at h3
            have e2 : sm (fun j => c j * B j k) o1.length = sm (fun j => c j * sm (fun r => Z j r * mskR p s' n rows r k) rows.length) o1.length := by
              refine sm_congr (fun j hj => ?_)
              rw [hZ j hj k]
              congr 1
              refine sm_congr (fun r _ => ?_)
              unfold mskR pk
              rw [hin k]; simp [hk]
            rw [e2]; grind
          · refine sm_zero (fun j hj => ?_)
            rw [hZ j hj k, sm_zero (fun r _ => by
              have : mskR p s n rows r k = 0 := by unfold mskR pk; simp [hk]
              rw [this]; grind)]; grind
        intro j hj
        by_cases cj : j < o1.length
        · exact hcj j cj
        · obtain rfl : j = o1.length := by omega
          have h3 := hc' i
          rw [sm_zero (fun t ht => by rw [hcj t ht]; grind)] at h3
          have e1 : sm (fun r => y r * mskR p s' n rows r i) rows.length = 1 := by
            rw [← hone]
            refine sm_congr (fun r _ => ?_)
            unfold mskR pk
            rw [hin i]; simp
          rw [e1] at h3
          grind)
      omega
    · rw [if_neg hld] at hsol
      refine hno ?_
      have := hsol.spans
      rw [hcl] at this
      exact this
end
end Go.Proofs.YtcdbeepphdfipaaGreatDoor

namespace Go.Proofs.YtcdbeepphdfipaaGreatDoor
open Go.RowKit Mat
set_option linter.unusedVariables false

section
variable {p : Nat} [NeZero p]

theorem IsRed.self {n : Nat} {R out : List (List Int)} (h : IsRed p n R out) : IsRed p n out out :=
  ⟨⟨h.inv.good, h.inv.lead, h.inv.rr, fun _ => Iff.rfl⟩, h.asc⟩
theorem IsRed.ind {n : Nat} {R out : List (List Int)} (h : IsRed p n R out) : Ind (mat p out) out.length := RR.ind h.inv.rr
theorem IsRed.le_rows (hp : Pr p) {n : Nat} {R out : List (List Int)} (h : IsRed p n R out) : out.length ≤ R.length :=
  dim_le hp (fun i hi => (h.inv.span _).2 (Span.row _ hi)) h.ind
theorem IsRed.row_in {n : Nat} {R out : List (List Int)} (h : IsRed p n R out) {i : Nat} (hi : i < R.length) : Span (mat p out) out.length (vec p (gr R i)) :=
  (h.inv.span _).1 (Span.row (mat p R) hi)
theorem IsRed.out_in {n : Nat} {R out : List (List Int)} (h : IsRed p n R out) {i : Nat} (hi : i < out.length) : Span (mat p R) R.length (vec p (gr out i)) :=
  (h.inv.span _).2 (Span.row (mat p out) hi)
end

theorem TabOk.vtB {q n : Nat} {rows : List (List Int)} (h : TabOk q n rows) : vtB q rows = true := by
  have hp := h.pr
  rw [vtB_iff, h.cols]
  refine ⟨by unfold Pr at hp; omega, ⟨h.r1, h.r6⟩, ⟨h.n1, h.n7⟩, fun i hi => ⟨(h.good i hi).1, fun k hk => ?_⟩⟩
  rw [(h.good i hi).1] at hk
  have := (h.good i hi).2 k hk
  omega
theorem TabOk.of_red {q n : Nat} [NeZero q] {rows out : List (List Int)} (h : TabOk q n rows) (hr : IsRed q n rows out) (h1 : 1 ≤ out.length) : TabOk q n out :=
  ⟨h.pr, hr.inv.good, (hr.inv.good 0 h1).1, h.n7, h.n1, h1, Nat.le_trans (hr.le_rows h.pr) h.r6⟩

section
variable {p : Nat} [NeZero p]

/-- m independent ones among the sums of m: the sums are the same. -/
theorem span_full (hp : Pr p) {R S : Nat → Nat → Fin p} {m : Nat} (hi : Ind R m) (hs : ∀ i, i < m → Span S m (R i)) {v : Nat → Fin p} (hv : Span S m v) : Span R m v := by
  apply Classical.byContradiction
  intro hno
  have h2 : Ind (fun i => if i < m then R i else v) (m + 1) := by
    intro c hc
    have hcm : c m = 0 := by
      apply Classical.byContradiction
      intro hne
      have := span_last hp (R := fun i => if i < m then R i else v) (i := m) hc hne
      simp only [Nat.lt_irrefl, if_false] at this
      obtain ⟨d, hd⟩ := this
      exact hno ⟨d, fun k => by rw [hd k]; exact sm_congr (fun i hi => by simp only [if_pos hi])⟩
    have h3 := hi c (fun k => by
      have h4 := hc k
      simp only [sm] at h4
      rw [hcm, sm_congr (g := fun i => c i * R i k) (fun i hi => by simp only [if_pos hi])] at h4
      grind)
    intro i hi'
    by_cases e : i = m
    · rw [e]; exact hcm
    · exact h3 i (by omega)
  have := dim_le hp (S := S) (n := m) (fun i hi' => by
    by_cases e : i < m
    · simp only [if_pos e]; exact hs i e
    · simp only [if_neg e]; exact hv) h2
  omega

/-- A table of full rank has independent rows. -/
theorem ind_of_rank (hp : Pr p) {n : Nat} {rows out : List (List Int)} (h : IsRed p n rows out) (hl : out.length = rows.length) : Ind (mat p rows) rows.length := by
  intro c hc i hi
  apply Classical.byContradiction
  intro hne
  obtain ⟨b, hb⟩ := fin_inv hp hne
  -- row i is a sum of the others, so the reduced ones are sums of one less
  have hm : ∃ m, rows.length = m + 1 := ⟨rows.length - 1, by omega⟩
  obtain ⟨m, hm⟩ := hm
  have hsum : ∀ (f : Nat → Fin p) (m i : Nat), i ≤ m → sm f (m + 1) = sm (fun j => f (if j < i then j else j + 1)) m + f i := by
    intro f m
    induction m with
    | zero => intro i hi; obtain rfl : i = 0 := by omega
              simp only [sm]
    | succ m ih =>
      intro i hi
      by_cases e : i = m + 1
      · subst e
        rw [sm, sm_congr (f := fun j => f (if j < m + 1 then j else j + 1)) (g := f) (fun j hj => by simp only [if_pos hj])]
      · rw [sm, ih i (by omega)]
        have e2 : sm (fun j => f (if j < i then j else j + 1)) (m + 1) = sm (fun j => f (if j < i then j else j + 1)) m + f (m + 1) := by
          rw [sm, if_neg (by omega)]
        rw [e2]; grind
  have hle := dim_le hp (R := mat p out) (m := out.length) (n := m) (S := fun j => mat p rows (if j < i then j else j + 1)) (fun r hr => by
    refine (h.out_in hr).mono (fun j hj => ?_)
    by_cases e : j = i
    · subst e
      refine ⟨fun t => -b * c (if t < j then t else t + 1), fun k => ?_⟩
      have h1 := hc k
      rw [hm, hsum (fun i => c i * mat p rows i k) m j (by omega)] at h1
      have h2 : sm (fun t => -b * c (if t < j then t else t + 1) * mat p rows (if t < j then t else t + 1) k) m = -b * sm (fun t => c (if t < j then t else t + 1) * mat p rows (if t < j then t else t + 1) k) m := by
        rw [← sm_mul]; exact sm_congr (fun t _ => by grind)
      rw [h2]
      have h3 : mat p rows j k = (c j * b) * mat p rows j k := by rw [hb]; grind
      grind
    · by_cases e2 : j < i
      · exact (Span.row (fun j => mat p rows (if j < i then j else j + 1)) (i := j) (by omega)).congr (fun k => by simp only [if_pos e2])
      · exact (Span.row (fun j => mat p rows (if j < i then j else j + 1)) (i := j - 1) (by omega)).congr (fun k => by simp only [if_neg (show ¬ j - 1 < i by omega)]; rw [show j - 1 + 1 = j by omega])) h.ind
  omega

/-! The checks. -/

/-- Where the checks stand, and what they are. -/
theorem nlTo_at (q : Int) (n : Nat) (a : List (List Int)) : ∀ c, ∃ f : Nat → Nat, (∀ i, i < (nlTo q n a c).length → f i < c ∧ ldIx a (f i) a.length < 0 ∧ gr (nlTo q n a c) i = nullRow q n a (f i)) ∧ (∀ i j, i < j → j < (nlTo q n a c).length → f i < f j) ∧
    (∀ k, k < c → ldIx a k a.length < 0 → ∃ i, i < (nlTo q n a c).length ∧ f i = k)
  | 0 => ⟨fun _ => 0, fun i hi => by simp [nlTo] at hi, fun i j h hj => by simp [nlTo] at hj, fun k hk => by omega⟩
  | c + 1 => by
    obtain ⟨f, h1, h2, h3⟩ := nlTo_at q n a c
    unfold nlTo
    by_cases h : 0 ≤ ldIx a c a.length
    · rw [if_pos h]
      exact ⟨f, fun i hi => ⟨by have := (h1 i hi).1; omega, (h1 i hi).2⟩, h2, fun k hk hl => h3 k (by
        by_cases e : k = c
        · subst e; omega
        · omega) hl⟩
    · rw [if_neg h]
      refine ⟨fun i => if i < (nlTo q n a c).length then f i else c, fun i hi => ?_, fun i j hij hj => ?_, fun k hk hl => ?_⟩
      · rw [List.length_append, List.length_singleton] at hi
        rw [gr_snoc hi]
        show (if i < (nlTo q n a c).length then f i else c) < c + 1 ∧ ldIx a (if i < (nlTo q n a c).length then f i else c) a.length < 0 ∧ _ = nullRow q n a (if i < (nlTo q n a c).length then f i else c)
        by_cases e : i < (nlTo q n a c).length
        · rw [if_pos e, if_pos e]; exact ⟨by have := (h1 i e).1; omega, (h1 i e).2⟩
        · rw [if_neg e, if_neg e]; exact ⟨by omega, by omega, rfl⟩
      · rw [List.length_append, List.length_singleton] at hj
        show (if i < (nlTo q n a c).length then f i else c) < (if j < (nlTo q n a c).length then f j else c)
        rw [if_pos (show i < (nlTo q n a c).length by omega)]
        by_cases e : j < (nlTo q n a c).length
        · rw [if_pos e]; exact h2 i j hij e
        · rw [if_neg e]; exact (h1 i (by omega)).1
      · rw [List.length_append, List.length_singleton]
        by_cases e : k = c
        · exact ⟨(nlTo q n a c).length, by omega, by simp only [Nat.lt_irrefl, if_false]; exact e.symm⟩
        · obtain ⟨i, hi, hfi⟩ := h3 k (by omega) hl
          exact ⟨i, by omega, by simp only [if_pos hi]; exact hfi⟩

theorem nullRow_get {q : Int} {n : Nat} {a : List (List Int)} {c k : Nat} (hk : k < n) : gi (nullRow q n a c) k = if 0 ≤ ldIx a k a.length then (-gi (gr a (ldIx a k a.length).toNat) c) % q else if k = c then 1 else 0 := by
  unfold nullRow
  rw [tab_get hk]
omit [NeZero p] in
theorem nullRow_good (hp : Pr p) (n : Nat) (a : List (List Int)) (c : Nat) : GoodRow p n (nullRow p n a c) := by
  have h2 := hp.pos
  refine ⟨tab_length _ _, fun k hk => ?_⟩
  rw [nullRow_get hk]
  split
  · exact ⟨Int.emod_nonneg _ (by omega), Int.emod_lt_of_pos _ (by omega)⟩
  · split <;> omega
omit [NeZero p] in
theorem nlTo_good (hp : Pr p) (n : Nat) (a : List (List Int)) (c : Nat) : GoodRows p n (nlTo p n a c) := fun i hi => by
  obtain ⟨f, h1, _⟩ := nlTo_at p n a c
  rw [(h1 i hi).2.2]
  exact nullRow_good hp n a _

/-- Checks and reduced rows are all columns. -/
theorem nlTo_count {n : Nat} {R a : List (List Int)} (h : IsRed p n R a) : (nlTo p n a n).length + a.length = n := by
  have key : ∀ c, c ≤ n → ∃ t, t ≤ a.length ∧ (nlTo p n a c).length + t = c ∧ (∀ i, i < t → ldN (gr a i) < c) ∧ ∀ i, t ≤ i → i < a.length → c ≤ ldN (gr a i) := by
    intro c
    induction c with
    | zero => intro _; exact ⟨0, Nat.zero_le _, rfl, fun i hi => by omega, fun i _ _ => Nat.zero_le _⟩
    | succ c ih =>
      intro hc
      obtain ⟨t, h1, h2, h3, h4⟩ := ih (by omega)
      unfold nlTo
      by_cases h0 : 0 ≤ ldIx a c a.length
      · rw [if_pos h0]
        have hb := ldIx_bounds a c a.length
        obtain ⟨i, hi⟩ : ∃ i, i = (ldIx a c a.length).toNat := ⟨_, rfl⟩
        have hl := hb.2.2 h0
        rw [← hi] at hl
        have hia : i < a.length := by omega
        have hti : t ≤ i := by
          apply Classical.byContradiction; intro hcc
          have := h3 i (by omega); omega
        have hit : i = t := by
          apply Classical.byContradiction; intro hcc
          have := h4 t (Nat.le_refl _) (by omega)
          have := h.asc t i (by omega) hia
          omega
        refine ⟨t + 1, by omega, by omega, fun j hj => ?_, fun j hj hja => ?_⟩
        · by_cases e : j = t
          · subst e; rw [← hit, hl]; omega
          · have := h3 j (by omega); omega
        · have := h.asc t j (by omega) hja
          rw [← hit, hl] at this
          omega
      · rw [if_neg h0, List.length_append, List.length_singleton]
        refine ⟨t, h1, by omega, fun i hi => by have := h3 i hi; omega, fun i hi hia => ?_⟩
        have := h4 i hi hia
        have := ldIx_neg (show ldIx a c a.length < 0 by omega) i hia
        omega
  obtain ⟨t, h1, h2, h3, h4⟩ := key n (Nat.le_refl _)
  have : t = a.length := by
    apply Classical.byContradiction; intro hcc
    have := h4 t (Nat.le_refl _) (by omega)
    have := (lead_some (h.inv.good t (by omega)) (h.inv.lead t (by omega))).1
    omega
  omega

theorem ldIx_at (hp : Pr p) {n : Nat} {R a : List (List Int)} (h : IsRed p n R a) {r : Nat} (hr : r < a.length) : ldIx a (ldN (gr a r)) a.length = r := by
  have hb := ldIx_bounds a (ldN (gr a r)) a.length
  by_cases c : 0 ≤ ldIx a (ldN (gr a r)) a.length
  · have h3 := hb.2.2 c
    have : (ldIx a (ldN (gr a r)) a.length).toNat = r := by
      rcases Nat.lt_trichotomy (ldIx a (ldN (gr a r)) a.length).toNat r with c1 | c1 | c1
      · have := h.asc _ r c1 hr; omega
      · exact c1
      · have := h.asc r _ c1 (by omega); omega
    omega
  · exact absurd rfl (ldIx_neg (show ldIx a (ldN (gr a r)) a.length < 0 by omega) r hr)

/-- A check and a reduced row. -/
theorem null_orth (hp : Pr p) {n : Nat} {R a : List (List Int)} (h : IsRed p n R a) {c : Nat} (hc : c < n) (hn : ldIx a c a.length < 0) {r : Nat} (hr : r < a.length) : dt n (vec p (nullRow p n a c)) (mat p a r) = 0 := by
  have hls := lead_some (h.inv.good r hr) (h.inv.lead r hr)
  obtain ⟨l, hl⟩ : ∃ l, l = ldN (gr a r) := ⟨_, rfl⟩
  rw [← hl] at hls
  have hne : l ≠ c := by rw [hl]; exact ldIx_neg hn r hr
  have hv : ∀ k, k < n → vec p (nullRow p n a c) k = if 0 ≤ ldIx a k a.length then -(mat p a (ldIx a k a.length).toNat c) else if k = c then 1 else 0 := fun k hk => by
    show phi p (gi (nullRow p n a c) k) = _
    rw [nullRow_get hk]
    split
    · rw [phi_emod, phi_neg]; rfl
    · split
      · exact phi_one
      · exact phi_zero
  -- the sum has two parts: at the lead of row r, and at c
  have e : dt n (vec p (nullRow p n a c)) (mat p a r) = sm (fun k => (if k = l then -(mat p a r c) else 0) + (if k = c then mat p a r c else 0)) n := by
    unfold dt
    refine sm_congr (fun k hk => ?_)
    rw [hv k hk]
    by_cases e1 : k = l
    · subst e1
      rw [hl, ldIx_at hp h hr, if_pos (by omega), ← hl, if_pos rfl, if_neg hne, Int.toNat_natCast]
      have h1 := h.inv.rr.unit r r hr hr
      rw [if_pos rfl] at h1
      simp only [← hl] at h1
      rw [h1]; grind
    · rw [if_neg e1]
      by_cases e2 : 0 ≤ ldIx a k a.length
      · have hb := ldIx_bounds a k a.length
        have hbl := hb.2.2 e2
        have hrk : r ≠ (ldIx a k a.length).toNat := fun e => e1 (by rw [← hbl, ← e, hl])
        have h1 := h.inv.rr.unit r (ldIx a k a.length).toNat hr (by omega)
        simp only [hbl] at h1
        rw [if_neg hrk] at h1
        rw [h1, if_pos e2, if_neg (show ¬ k = c from fun e => by subst e; omega)]; grind
      · rw [if_neg e2]
        by_cases e3 : k = c
        · subst e3; rw [if_pos rfl, if_pos rfl]; grind
        · rw [if_neg e3, if_neg e3]; grind
  rw [e, sm_add, sm_single (f := fun k => if k = l then -(mat p a r c) else 0) l hls.1 (fun j _ hj => by simp only [if_neg hj]), sm_single (f := fun k => if k = c then mat p a r c else 0) c hc (fun j _ hj => by simp only [if_neg hj])]
  simp only [if_true]
  grind

/-- Each check is orthogonal to each row. -/
theorem nulls_orth (hp : Pr p) {n : Nat} {R a : List (List Int)} (h : IsRed p n R a) {i k : Nat} (hi : i < (nlTo p n a n).length) (hk : k < R.length) : dt n (vec p (gr (nlTo p n a n) i)) (vec p (gr R k)) = 0 := by
  obtain ⟨f, h1, h2, h3⟩ := nlTo_at p n a n
  rw [(h1 i hi).2.2]
  exact (red_orth h n).2 (fun r hr => null_orth hp h (h1 i hi).1 (h1 i hi).2.1 hr) k hk

/-- The checks are independent. -/
theorem nulls_ind (hp : Pr p) {n : Nat} (a : List (List Int)) : Ind (mat p (nlTo p n a n)) (nlTo p n a n).length := by
  obtain ⟨f, h1, h2, h3⟩ := nlTo_at p n a n
  intro c hc i hi
  have h4 := hc (f i)
  have hinj : ∀ j, j < (nlTo p n a n).length → j ≠ i → f j ≠ f i := fun j hj hne e => by
    rcases Nat.lt_or_gt_of_ne hne with c1 | c1
    · have := h2 j i c1 hi; omega
    · have := h2 i j c1 hj; omega
  have hm : ∀ j, j < (nlTo p n a n).length → mat p (nlTo p n a n) j (f i) = if j = i then 1 else 0 := fun j hj => by
    show phi p (gi (gr (nlTo p n a n) j) (f i)) = _
    rw [(h1 j hj).2.2, nullRow_get (h1 i hi).1, if_neg (by have := (h1 i hi).2.1; omega)]
    by_cases e : j = i
    · subst e; rw [if_pos rfl, if_pos rfl, phi_one]
    · rw [if_neg (fun e2 => hinj j hj e e2.symm), if_neg e, phi_zero]
  rw [sm_single i hi (fun j hj hne => by rw [hm j hj, if_neg hne]; grind), hm i hi, if_pos rfl] at h4
  grind

/-- What is orthogonal to all rows is a sum of checks. -/
theorem nulls_all (hp : Pr p) {n : Nat} {R a : List (List Int)} (h : IsRed p n R a) {v : Nat → Fin p} (hv : ∀ k, k < R.length → dt n v (vec p (gr R k)) = 0) (hv0 : ∀ k, n ≤ k → v k = 0) : Span (mat p (nlTo p n a n)) (nlTo p n a n).length v := by
  obtain ⟨f, h1, h2, h3⟩ := nlTo_at p n a n
  have ho := (red_orth h (c := v) n).1 hv
  -- v less the sum of the checks is 0 at all that are no leads, and orthogonal
  obtain ⟨u, hu⟩ : ∃ u : Nat → Fin p, u = fun k => v k - sm (fun i => v (f i) * mat p (nlTo p n a n) i k) (nlTo p n a n).length := ⟨_, rfl⟩
  have hu0 : ∀ k, k < n → ldIx a k a.length < 0 → u k = 0 := fun k hk hl => by
    obtain ⟨i, hi, hfi⟩ := h3 k hk hl
    rw [hu]
    show v k - _ = 0
    rw [sm_single i hi (fun j hj hne => by
      have : mat p (nlTo p n a n) j k = 0 := by
        show phi p (gi (gr (nlTo p n a n) j) k) = _
        rw [(h1 j hj).2.2, nullRow_get hk, if_neg (by omega), if_neg (fun e => by
          rcases Nat.lt_or_gt_of_ne hne with c1 | c1
          · have := h2 j i c1 hi; omega
          · have := h2 i j c1 hj; omega), phi_zero]
      rw [this]; grind)]
    have : mat p (nlTo p n a n) i k = 1 := by
      show phi p (gi (gr (nlTo p n a n) i) k) = _
      rw [(h1 i hi).2.2, nullRow_get hk, if_neg (by omega), if_pos hfi.symm, phi_one]
    rw [this, hfi]; grind
  have huo : ∀ r, r < a.length → dt n u (mat p a r) = 0 := fun r hr => by
    have e : dt n u (mat p a r) = dt n v (mat p a r) + (-1) * sm (fun i => v (f i) * dt n (mat p (nlTo p n a n) i) (mat p a r)) (nlTo p n a n).length := by
      unfold dt
      have e1 : sm (fun k => u k * mat p a r k) n = sm (fun k => v k * mat p a r k + (-1) * sm (fun i => v (f i) * (mat p (nlTo p n a n) i k * mat p a r k)) (nlTo p n a n).length) n := sm_congr (fun k _ => by
        rw [hu]
        show (v k - _) * _ = _
        have e2 : sm (fun i => v (f i) * (mat p (nlTo p n a n) i k * mat p a r k)) (nlTo p n a n).length = mat p a r k * sm (fun i => v (f i) * mat p (nlTo p n a n) i k) (nlTo p n a n).length := by
          rw [← sm_mul]; exact sm_congr (fun i _ => by grind)
        rw [e2]; grind)
      rw [e1, sm_add, sm_mul, sm_comm]
      congr 2
      exact sm_congr (fun i _ => by rw [sm_mul])
    rw [e, ho r hr, sm_zero (fun i hi => by
      have := null_orth hp h (h1 i hi).1 (h1 i hi).2.1 hr
      show v (f i) * dt n (vec p (gr (nlTo p n a n) i)) (mat p a r) = 0
      rw [(h1 i hi).2.2, this]; grind)]
    grind
  have hul : ∀ r, r < a.length → u (ldN (gr a r)) = 0 := fun r hr => by
    have hls := lead_some (h.inv.good r hr) (h.inv.lead r hr)
    have h4 := huo r hr
    unfold dt at h4
    rw [sm_single (ldN (gr a r)) hls.1 (fun k hk hne => by
      by_cases e2 : 0 ≤ ldIx a k a.length
      · have hb := ldIx_bounds a k a.length
        have hbl := hb.2.2 e2
        have hrk : r ≠ (ldIx a k a.length).toNat := fun e => hne (by rw [← hbl, ← e])
        have h5 := h.inv.rr.unit r (ldIx a k a.length).toNat hr (by omega)
        simp only [hbl] at h5
        rw [if_neg hrk] at h5
        rw [h5]; grind
      · rw [hu0 k hk (by omega)]; grind)] at h4
    have h5 := h.inv.rr.unit r r hr hr
    rw [if_pos rfl] at h5
    rw [h5] at h4
    grind
  refine ⟨fun i => v (f i), fun k => ?_⟩
  have : u k = 0 := by
    by_cases hk : k < n
    · by_cases e : 0 ≤ ldIx a k a.length
      · have hb := ldIx_bounds a k a.length
        have := hul (ldIx a k a.length).toNat (by omega)
        rw [hb.2.2 e] at this
        exact this
      · exact hu0 k hk (by omega)
    · rw [hu]
      show v k - _ = 0
      rw [hv0 k (by omega), sm_zero (fun i hi => by
        have : mat p (nlTo p n a n) i k = 0 := vec_ge (by rw [(nlTo_good hp n a n i hi).1]; omega)
        rw [this]; grind)]
      grind
  rw [hu] at this
  have h6 : v k - sm (fun i => v (f i) * mat p (nlTo p n a n) i k) (nlTo p n a n).length = 0 := this
  grind
end
end Go.Proofs.YtcdbeepphdfipaaGreatDoor
