/- Plain linear algebra over the numbers by the rests of a prime: sums, spans, reduced rows and that they are unique. No program in sight. -/
namespace Go.Proofs.Yteoiaicpdmlecaa.Mat
set_option linter.unusedVariables false

/-- The primes that are looked at. -/
def Pr (p : Nat) : Prop := p = 2 ∨ p = 3 ∨ p = 5 ∨ p = 7

theorem Pr.pos {p : Nat} (h : Pr p) : 2 ≤ p ∧ p ≤ 7 := by unfold Pr at h; omega

theorem Pr.nz {p : Nat} (h : Pr p) : NeZero p := ⟨by have := h.pos; omega⟩

theorem fin_ext_int {p : Nat} {a b : Fin p} (h : ((a.val : Nat) : Int) = ((b.val : Nat) : Int)) : a = b := Fin.ext (by omega)

section
variable {p : Nat} [NeZero p]

theorem p_pos : (0 : Int) < (p : Int) := by have := NeZero.ne p; omega

/-- The rest of a number. -/
def phi (p : Nat) [NeZero p] (x : Int) : Fin p := Fin.ofNat p (x % (p : Int)).toNat

theorem phi_val (x : Int) : (((phi p x).val : Nat) : Int) = x % (p : Int) := by
  have h0 := p_pos (p := p)
  have h1 := Int.emod_nonneg x (show (p : Int) ≠ 0 by omega)
  have h2 := Int.emod_lt_of_pos x h0
  unfold phi
  rw [Fin.val_ofNat, Nat.mod_eq_of_lt (by omega)]
  omega

theorem phi_congr {x y : Int} (h : x % (p : Int) = y % (p : Int)) : phi p x = phi p y := fin_ext_int (by rw [phi_val, phi_val, h])

theorem phi_inj {x y : Int} (h : phi p x = phi p y) : x % (p : Int) = y % (p : Int) := by rw [← phi_val, ← phi_val, h]

theorem phi_emod (x : Int) : phi p (x % (p : Int)) = phi p x := phi_congr (by rw [Int.emod_emod])

theorem phi_add (x y : Int) : phi p (x + y) = phi p x + phi p y := by
  apply fin_ext_int
  rw [phi_val, Fin.val_add]
  have h1 := phi_val (p := p) x
  have h2 := phi_val (p := p) y
  rw [Int.natCast_emod, Int.natCast_add, h1, h2, ← Int.add_emod]

theorem phi_mul (x y : Int) : phi p (x * y) = phi p x * phi p y := by
  apply fin_ext_int
  rw [phi_val, Fin.val_mul]
  have h1 := phi_val (p := p) x
  have h2 := phi_val (p := p) y
  rw [Int.natCast_emod, Int.natCast_mul, h1, h2, ← Int.mul_emod]

theorem phi_zero : phi p 0 = 0 := by
  apply fin_ext_int; rw [phi_val]; simp

theorem phi_one : phi p 1 = 1 := by
  apply fin_ext_int; rw [phi_val]; show (1 : Int) % (p : Int) = ((1 % p : Nat) : Int); rw [Int.natCast_emod]; rfl

theorem phi_neg (x : Int) : phi p (-x) = -phi p x := by
  have h : phi p (-x) + phi p x = 0 := by rw [← phi_add, Int.add_left_neg, phi_zero]
  grind

theorem phi_sub (x y : Int) : phi p (x - y) = phi p x - phi p y := by
  rw [Int.sub_eq_add_neg, phi_add, phi_neg]; grind

theorem phi_self : phi p (p : Int) = 0 := by
  apply fin_ext_int; rw [phi_val]; simp

theorem phi_eq_of_range {x y : Int} (hx : 0 ≤ x) (hx' : x < p) (hy : 0 ≤ y) (hy' : y < p) (h : phi p x = phi p y) : x = y := by
  have := phi_inj h
  rwa [Int.emod_eq_of_lt hx hx', Int.emod_eq_of_lt hy hy'] at this

theorem phi_eq_zero {x : Int} (hx : 0 ≤ x) (hx' : x < p) : phi p x = 0 ↔ x = 0 := by
  constructor
  · intro h; exact phi_eq_of_range hx hx' (by omega) (by omega) (by rw [h, phi_zero])
  · rintro rfl; exact phi_zero

/-! Sums. -/

/-- The sum of the first n. -/
def sm (f : Nat → Fin p) : Nat → Fin p
  | 0 => 0
  | n + 1 => sm f n + f n

theorem sm_congr {f g : Nat → Fin p} {n : Nat} (h : ∀ i, i < n → f i = g i) : sm f n = sm g n := by
  induction n with
  | zero => rfl
  | succ n ih => simp only [sm]; rw [ih (fun i hi => h i (by omega)), h n (by omega)]

theorem sm_add (f g : Nat → Fin p) (n : Nat) : sm (fun i => f i + g i) n = sm f n + sm g n := by
  induction n with
  | zero => simp [sm]
  | succ n ih => simp only [sm, ih]; grind

theorem sm_mul (c : Fin p) (f : Nat → Fin p) (n : Nat) : sm (fun i => c * f i) n = c * sm f n := by
  induction n with
  | zero => simp only [sm]; grind
  | succ n ih => simp only [sm, ih]; grind

theorem sm_zero {f : Nat → Fin p} {n : Nat} (h : ∀ i, i < n → f i = 0) : sm f n = 0 := by
  rw [sm_congr h]
  clear h
  induction n with
  | zero => rfl
  | succ n ih => simp only [sm, ih]; grind

theorem sm_single {f : Nat → Fin p} {n : Nat} (j : Nat) (hj : j < n) (h : ∀ i, i < n → i ≠ j → f i = 0) : sm f n = f j := by
  induction n with
  | zero => omega
  | succ n ih =>
    simp only [sm]
    by_cases e : j = n
    · subst e; rw [sm_zero (fun i hi => h i (by omega) (by omega))]; grind
    · rw [ih (by omega) (fun i hi => h i (by omega)), h n (by omega) (by omega)]; grind

theorem sm_comm (f : Nat → Nat → Fin p) (m n : Nat) : sm (fun i => sm (fun j => f i j) n) m = sm (fun j => sm (fun i => f i j) m) n := by
  induction m with
  | zero => simp only [sm]; rw [sm_zero (fun _ _ => rfl)]
  | succ m ih => simp only [sm]; rw [ih, ← sm_add]

/-! Spans. -/

/-- v is a sum of multiples of the first m rows. -/
def Span (R : Nat → Nat → Fin p) (m : Nat) (v : Nat → Fin p) : Prop := ∃ c : Nat → Fin p, ∀ k, v k = sm (fun i => c i * R i k) m

theorem Span.zero (R : Nat → Nat → Fin p) (m : Nat) : Span R m (fun _ => 0) := ⟨fun _ => 0, fun _ => (sm_zero (fun i _ => by grind)).symm⟩

theorem Span.add {R : Nat → Nat → Fin p} {m : Nat} {u v : Nat → Fin p} (hu : Span R m u) (hv : Span R m v) : Span R m (fun k => u k + v k) := by
  obtain ⟨c, hc⟩ := hu
  obtain ⟨d, hd⟩ := hv
  refine ⟨fun i => c i + d i, fun k => ?_⟩
  show u k + v k = _
  rw [hc, hd, ← sm_add]
  exact sm_congr (fun i _ => by grind)

theorem Span.smul {R : Nat → Nat → Fin p} {m : Nat} {u : Nat → Fin p} (a : Fin p) (hu : Span R m u) : Span R m (fun k => a * u k) := by
  obtain ⟨c, hc⟩ := hu
  refine ⟨fun i => a * c i, fun k => ?_⟩
  show a * u k = _
  rw [hc, ← sm_mul]
  exact sm_congr (fun i _ => by grind)

theorem Span.congr {R : Nat → Nat → Fin p} {m : Nat} {u v : Nat → Fin p} (hu : Span R m u) (h : ∀ k, v k = u k) : Span R m v := by
  have : v = u := funext h
  rw [this]; exact hu

theorem Span.sub {R : Nat → Nat → Fin p} {m : Nat} {u v : Nat → Fin p} (hu : Span R m u) (hv : Span R m v) : Span R m (fun k => u k - v k) :=
  (hu.add (hv.smul (-1))).congr (fun k => by grind)

theorem Span.row (R : Nat → Nat → Fin p) {m : Nat} {i : Nat} (hi : i < m) : Span R m (R i) := by
  refine ⟨fun j => if j = i then 1 else 0, fun k => ?_⟩
  rw [sm_single i hi (fun j _ hne => by simp only [if_neg hne]; grind)]; simp only [if_true]; grind

theorem Span.sum {R : Nat → Nat → Fin p} {m : Nat} (u : Nat → Nat → Fin p) (c : Nat → Fin p) (n : Nat) (h : ∀ i, i < n → Span R m (u i)) : Span R m (fun k => sm (fun i => c i * u i k) n) := by
  induction n with
  | zero => exact Span.zero R m
  | succ n ih =>
    simp only [sm]
    exact (ih (fun i hi => h i (by omega))).add ((h n (by omega)).smul (c n))

theorem Span.mono {R S : Nat → Nat → Fin p} {m n : Nat} {v : Nat → Fin p} (hv : Span R m v) (h : ∀ i, i < m → Span S n (R i)) : Span S n v := by
  obtain ⟨c, hc⟩ := hv
  exact (Span.sum R c m h).congr hc

/-! Reduced rows. -/

/-- Rows with ones alone in their columns, and nothing ahead of them. -/
structure RR (R : Nat → Nat → Fin p) (m : Nat) (ld : Nat → Nat) : Prop where
  unit : ∀ i j, i < m → j < m → R i (ld j) = if i = j then 1 else 0
  front : ∀ i k, i < m → k < ld i → R i k = 0

/-- What is in the span is told by its numbers at the leads. -/
theorem RR.told {R : Nat → Nat → Fin p} {m : Nat} {ld : Nat → Nat} (h : RR R m ld) {v : Nat → Fin p} (hv : Span R m v) : ∀ k, v k = sm (fun i => v (ld i) * R i k) m := by
  obtain ⟨c, hc⟩ := hv
  intro k
  rw [hc k]
  refine sm_congr (fun i hi => ?_)
  rw [hc (ld i), sm_single i hi (fun j hj hne => by rw [h.unit j i hj hi, if_neg hne]; grind), h.unit i i hi hi, if_pos rfl]
  grind

/-- What is in the span and 0 at all leads is 0. -/
theorem RR.zero_of {R : Nat → Nat → Fin p} {m : Nat} {ld : Nat → Nat} (h : RR R m ld) {v : Nat → Fin p} (hv : Span R m v) (h0 : ∀ i, i < m → v (ld i) = 0) (k : Nat) : v k = 0 := by
  rw [h.told hv k]
  exact sm_zero (fun i hi => by rw [h0 i hi]; grind)

/-- The first number that is not 0 of what is in the span is at a lead. -/
theorem RR.lead_of {R : Nat → Nat → Fin p} {m : Nat} {ld : Nat → Nat} (h : RR R m ld) {v : Nat → Fin p} (hv : Span R m v) {l : Nat} (hl : v l ≠ 0) (h0 : ∀ k, k < l → v k = 0) : ∃ i, i < m ∧ ld i = l := by
  apply Classical.byContradiction
  intro hno
  apply hl
  rw [h.told hv l]
  refine sm_zero (fun i hi => ?_)
  by_cases hc : ld i < l
  · rw [h0 _ hc]; grind
  · have : ld i ≠ l := fun e => hno ⟨i, hi, e⟩
    rw [h.front i l hi (by omega)]; grind

/-- Two ascending lists of the same numbers are one. -/
theorem asc_unique {f g : Nat → Nat} {m n : Nat} (hf : ∀ i j, i < j → j < m → f i < f j) (hg : ∀ i j, i < j → j < n → g i < g j)
    (h1 : ∀ i, i < m → ∃ j, j < n ∧ g j = f i) (h2 : ∀ j, j < n → ∃ i, i < m ∧ f i = g j) : m = n ∧ ∀ i, i < m → f i = g i := by
  have key : ∀ i, i < m → i < n → f i = g i := by
    intro i
    induction i using Nat.strongRecOn with
    | _ i ih =>
      intro hm hn
      obtain ⟨j, hj, ej⟩ := h1 i hm
      obtain ⟨k, hk, ek⟩ := h2 i hn
      have a : i ≤ j := by
        apply Classical.byContradiction; intro hc
        have := ih j (by omega) (by omega) hj
        have := hf j i (by omega) hm
        omega
      have b : i ≤ k := by
        apply Classical.byContradiction; intro hc
        have := ih k (by omega) hk (by omega)
        have := hg k i (by omega) hn
        omega
      have c : g i ≤ g j := by
        by_cases e : i = j
        · subst e; omega
        · have := hg i j (by omega) hj; omega
      have d : f i ≤ f k := by
        by_cases e : i = k
        · subst e; omega
        · have := hf i k (by omega) hk; omega
      omega
  have hmn : m = n := by
    apply Classical.byContradiction; intro hne
    by_cases hlt : m < n
    · obtain ⟨i, hi, ei⟩ := h2 m hlt
      have := key i hi (by omega)
      have := hg i m hi hlt
      omega
    · obtain ⟨j, hj, ej⟩ := h1 n (by omega)
      have := key j (by omega) hj
      have := hf j n hj (by omega)
      omega
  exact ⟨hmn, fun i hi => key i hi (by omega)⟩

theorem one_ne_zero (h2 : 2 ≤ p) : (1 : Fin p) ≠ 0 := by
  intro h
  rw [← phi_one, ← phi_zero] at h
  have := phi_inj h
  rw [Int.emod_eq_of_lt (by omega) (by omega)] at this
  simp at this

/-- Reduced rows in order are told by their span. -/
theorem RR.unique (h2 : 2 ≤ p) {R S : Nat → Nat → Fin p} {m n : Nat} {ld ld' : Nat → Nat} (h : RR R m ld) (h' : RR S n ld')
    (ho : ∀ i j, i < j → j < m → ld i < ld j) (ho' : ∀ i j, i < j → j < n → ld' i < ld' j) (hs : ∀ v, Span R m v ↔ Span S n v) :
    m = n ∧ ∀ i, i < m → ld i = ld' i ∧ ∀ k, R i k = S i k := by
  have a := asc_unique ho ho'
    (fun i hi => h'.lead_of ((hs _).1 (Span.row R hi)) (l := ld i) (by rw [h.unit i i hi hi, if_pos rfl]; exact one_ne_zero h2) (fun k hk => h.front i k hi hk))
    (fun i hi => h.lead_of ((hs _).2 (Span.row S hi)) (l := ld' i) (by rw [h'.unit i i hi hi, if_pos rfl]; exact one_ne_zero h2) (fun k hk => h'.front i k hi hk))
  obtain ⟨rfl, hl⟩ := a
  refine ⟨rfl, fun i hi => ⟨hl i hi, fun k => ?_⟩⟩
  rw [h'.told ((hs _).1 (Span.row R hi)) k]
  rw [sm_single i hi (fun j hj hne => by rw [← hl j hj, h.unit i j hi hj, if_neg (fun e => hne e.symm)]; grind)]
  rw [← hl i hi, h.unit i i hi hi, if_pos rfl]; grind
end
end Go.Proofs.Yteoiaicpdmlecaa.Mat
