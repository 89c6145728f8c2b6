/- Plain linear algebra over the numbers by the rests of a prime: sums, spans, reduced rows and that they are unique. No program in sight. Plain arithmetic that the walks use: rests, inverses, powers of 2, bits. No program in sight. What slices in memory hold, and how memory turns: the words that all walks of this seat use. append and make, told of slices that own their block. Tables, as both programs tell them: plain functions on lists. Plain lists: the index of the first number of a kind; a multiple of a list added to another one. Slices of structs of two cells that own their block; append to them. A map from numbers to slices, that the call makes: keys and values as lists. Steps of a region that draws its order, one operation at a time: for regions with a guard that is not met, behind a call that makes memory. -/
import Derived.WalkKit
import Derived.WalkSpells
import Derived.WalkLawsBesides
import Derived.Deep.LoopGhost
import Derived.Lib.Hide
import Derived.ArgAppend
import Derived.Laws.AppendOwnNone
import Derived.Maps.RangeWalk
import Derived.Deep.RegionHeld3
namespace Go.Proofs.YtcdbeepphdfipaaGreatDoor.Mat
set_option linter.unusedVariables false

/-- The primes that are looked at. -/
def Pr (p : Nat) : Prop := p = 2 ∨ p = 3 ∨ p = 5 ∨ p = 7

theorem Pr.pos {p : Nat} (h : Pr p) : 2 ≤ p ∧ p ≤ 7 := by unfold Pr at h; omega

theorem Pr.nz {p : Nat} (h : Pr p) : NeZero p := ⟨by have := h.pos; omega⟩

theorem fin_ext_int {p : Nat} {a b : Fin p} (h : ((a.val : Nat) : Int) = ((b.val : Nat) : Int)) : a = b := Fin.ext (by omega)

section
variable {p : Nat} [NeZero p]

theorem p_pos : (0 : Int) < (p : Int) := by have := NeZero.ne p; omega

/-- The rest of a number. -/
def phi (p : Nat) [NeZero p] (x : Int) : Fin p := Fin.ofNat p (x % (p : Int)).toNat

theorem phi_val (x : Int) : (((phi p x).val : Nat) : Int) = x % (p : Int) := by
  have h0 := p_pos (p := p)
  have h1 := Int.emod_nonneg x (show (p : Int) ≠ 0 by omega)
  have h2 := Int.emod_lt_of_pos x h0
  unfold phi
  rw [Fin.val_ofNat, Nat.mod_eq_of_lt (by omega)]
  omega

theorem phi_congr {x y : Int} (h : x % (p : Int) = y % (p : Int)) : phi p x = phi p y := fin_ext_int (by rw [phi_val, phi_val, h])

theorem phi_inj {x y : Int} (h : phi p x = phi p y) : x % (p : Int) = y % (p : Int) := by rw [← phi_val, ← phi_val, h]

theorem phi_emod (x : Int) : phi p (x % (p : Int)) = phi p x := phi_congr (by rw [Int.emod_emod])

theorem phi_add (x y : Int) : phi p (x + y) = phi p x + phi p y := by
  apply fin_ext_int
  rw [phi_val, Fin.val_add]
  have h1 := phi_val (p := p) x
  have h2 := phi_val (p := p) y
  rw [Int.natCast_emod, Int.natCast_add, h1, h2, ← Int.add_emod]

theorem phi_mul (x y : Int) : phi p (x * y) = phi p x * phi p y := by
  apply fin_ext_int
  rw [phi_val, Fin.val_mul]
  have h1 := phi_val (p := p) x
  have h2 := phi_val (p := p) y
  rw [Int.natCast_emod, Int.natCast_mul, h1, h2, ← Int.mul_emod]

theorem phi_zero : phi p 0 = 0 := by
  apply fin_ext_int; rw [phi_val]; simp

theorem phi_one : phi p 1 = 1 := by
  apply fin_ext_int; rw [phi_val]; show (1 : Int) % (p : Int) = ((1 % p : Nat) : Int); rw [Int.natCast_emod]; rfl

theorem phi_neg (x : Int) : phi p (-x) = -phi p x := by
  have h : phi p (-x) + phi p x = 0 := by rw [← phi_add, Int.add_left_neg, phi_zero]
  grind

theorem phi_sub (x y : Int) : phi p (x - y) = phi p x - phi p y := by
  rw [Int.sub_eq_add_neg, phi_add, phi_neg]; grind

theorem phi_self : phi p (p : Int) = 0 := by
  apply fin_ext_int; rw [phi_val]; simp

theorem phi_eq_of_range {x y : Int} (hx : 0 ≤ x) (hx' : x < p) (hy : 0 ≤ y) (hy' : y < p) (h : phi p x = phi p y) : x = y := by
  have := phi_inj h
  rwa [Int.emod_eq_of_lt hx hx', Int.emod_eq_of_lt hy hy'] at this

theorem phi_eq_zero {x : Int} (hx : 0 ≤ x) (hx' : x < p) : phi p x = 0 ↔ x = 0 := by
  constructor
  · intro h; exact phi_eq_of_range hx hx' (by omega) (by omega) (by rw [h, phi_zero])
  · rintro rfl; exact phi_zero

/-! Sums. -/

/-- The sum of the first n. -/
def sm (f : Nat → Fin p) : Nat → Fin p
  | 0 => 0
  | n + 1 => sm f n + f n

theorem sm_congr {f g : Nat → Fin p} {n : Nat} (h : ∀ i, i < n → f i = g i) : sm f n = sm g n := by
  induction n with
  | zero => rfl
  | succ n ih => simp only [sm]; rw [ih (fun i hi => h i (by omega)), h n (by omega)]

theorem sm_add (f g : Nat → Fin p) (n : Nat) : sm (fun i => f i + g i) n = sm f n + sm g n := by
  induction n with
  | zero => simp [sm]
  | succ n ih => simp only [sm, ih]; grind

theorem sm_mul (c : Fin p) (f : Nat → Fin p) (n : Nat) : sm (fun i => c * f i) n = c * sm f n := by
  induction n with
  | zero => simp only [sm]; grind
  | succ n ih => simp only [sm, ih]; grind

theorem sm_zero {f : Nat → Fin p} {n : Nat} (h : ∀ i, i < n → f i = 0) : sm f n = 0 := by
  rw [sm_congr h]
  clear h
  induction n with
  | zero => rfl
  | succ n ih => simp only [sm, ih]; grind

theorem sm_single {f : Nat → Fin p} {n : Nat} (j : Nat) (hj : j < n) (h : ∀ i, i < n → i ≠ j → f i = 0) : sm f n = f j := by
  induction n with
  | zero => omega
  | succ n ih =>
    simp only [sm]
    by_cases e : j = n
    · subst e; rw [sm_zero (fun i hi => h i (by omega) (by omega))]; grind
    · rw [ih (by omega) (fun i hi => h i (by omega)), h n (by omega) (by omega)]; grind

theorem sm_comm (f : Nat → Nat → Fin p) (m n : Nat) : sm (fun i => sm (fun j => f i j) n) m = sm (fun j => sm (fun i => f i j) m) n := by
  induction m with
  | zero => simp only [sm]; rw [sm_zero (fun _ _ => rfl)]
  | succ m ih => simp only [sm]; rw [ih, ← sm_add]

/-! Spans. -/

/-- v is a sum of multiples of the first m rows. -/
def Span (R : Nat → Nat → Fin p) (m : Nat) (v : Nat → Fin p) : Prop := ∃ c : Nat → Fin p, ∀ k, v k = sm (fun i => c i * R i k) m

theorem Span.zero (R : Nat → Nat → Fin p) (m : Nat) : Span R m (fun _ => 0) := ⟨fun _ => 0, fun _ => (sm_zero (fun i _ => by grind)).symm⟩

theorem Span.add {R : Nat → Nat → Fin p} {m : Nat} {u v : Nat → Fin p} (hu : Span R m u) (hv : Span R m v) : Span R m (fun k => u k + v k) := by
  obtain ⟨c, hc⟩ := hu
  obtain ⟨d, hd⟩ := hv
  refine ⟨fun i => c i + d i, fun k => ?_⟩
  show u k + v k = _
  rw [hc, hd, ← sm_add]
  exact sm_congr (fun i _ => by grind)

theorem Span.smul {R : Nat → Nat → Fin p} {m : Nat} {u : Nat → Fin p} (a : Fin p) (hu : Span R m u) : Span R m (fun k => a * u k) := by
  obtain ⟨c, hc⟩ := hu
  refine ⟨fun i => a * c i, fun k => ?_⟩
  show a * u k = _
  rw [hc, ← sm_mul]
  exact sm_congr (fun i _ => by grind)

theorem Span.congr {R : Nat → Nat → Fin p} {m : Nat} {u v : Nat → Fin p} (hu : Span R m u) (h : ∀ k, v k = u k) : Span R m v := by
  have : v = u := funext h
  rw [this]; exact hu

theorem Span.sub {R : Nat → Nat → Fin p} {m : Nat} {u v : Nat → Fin p} (hu : Span R m u) (hv : Span R m v) : Span R m (fun k => u k - v k) :=
  (hu.add (hv.smul (-1))).congr (fun k => by grind)

theorem Span.row (R : Nat → Nat → Fin p) {m : Nat} {i : Nat} (hi : i < m) : Span R m (R i) := by
  refine ⟨fun j => if j = i then 1 else 0, fun k => ?_⟩
  rw [sm_single i hi (fun j _ hne => by simp only [if_neg hne]; grind)]; simp only [if_true]; grind

theorem Span.sum {R : Nat → Nat → Fin p} {m : Nat} (u : Nat → Nat → Fin p) (c : Nat → Fin p) (n : Nat) (h : ∀ i, i < n → Span R m (u i)) : Span R m (fun k => sm (fun i => c i * u i k) n) := by
  induction n with
  | zero => exact Span.zero R m
  | succ n ih =>
    simp only [sm]
    exact (ih (fun i hi => h i (by omega))).add ((h n (by omega)).smul (c n))

theorem Span.mono {R S : Nat → Nat → Fin p} {m n : Nat} {v : Nat → Fin p} (hv : Span R m v) (h : ∀ i, i < m → Span S n (R i)) : Span S n v := by
  obtain ⟨c, hc⟩ := hv
  exact (Span.sum R c m h).congr hc

/-! Reduced rows. -/

/-- Rows with ones alone in their columns, and nothing ahead of them. -/
structure RR (R : Nat → Nat → Fin p) (m : Nat) (ld : Nat → Nat) : Prop where
  unit : ∀ i j, i < m → j < m → R i (ld j) = if i = j then 1 else 0
  front : ∀ i k, i < m → k < ld i → R i k = 0

/-- What is in the span is told by its numbers at the leads. -/
theorem RR.told {R : Nat → Nat → Fin p} {m : Nat} {ld : Nat → Nat} (h : RR R m ld) {v : Nat → Fin p} (hv : Span R m v) : ∀ k, v k = sm (fun i => v (ld i) * R i k) m := by
  obtain ⟨c, hc⟩ := hv
  intro k
  rw [hc k]
  refine sm_congr (fun i hi => ?_)
  rw [hc (ld i), sm_single i hi (fun j hj hne => by rw [h.unit j i hj hi, if_neg hne]; grind), h.unit i i hi hi, if_pos rfl]
  grind

/-- What is in the span and 0 at all leads is 0. -/
theorem RR.zero_of {R : Nat → Nat → Fin p} {m : Nat} {ld : Nat → Nat} (h : RR R m ld) {v : Nat → Fin p} (hv : Span R m v) (h0 : ∀ i, i < m → v (ld i) = 0) (k : Nat) : v k = 0 := by
  rw [h.told hv k]
  exact sm_zero (fun i hi => by rw [h0 i hi]; grind)

/-- The first number that is not 0 of what is in the span is at a lead. -/
theorem RR.lead_of {R : Nat → Nat → Fin p} {m : Nat} {ld : Nat → Nat} (h : RR R m ld) {v : Nat → Fin p} (hv : Span R m v) {l : Nat} (hl : v l ≠ 0) (h0 : ∀ k, k < l → v k = 0) : ∃ i, i < m ∧ ld i = l := by
  apply Classical.byContradiction
  intro hno
  apply hl
  rw [h.told hv l]
  refine sm_zero (fun i hi => ?_)
  by_cases hc : ld i < l
  · rw [h0 _ hc]; grind
  · have : ld i ≠ l := fun e => hno ⟨i, hi, e⟩
    rw [h.front i l hi (by omega)]; grind

/-- Two ascending lists of the same numbers are one. -/
theorem asc_unique {f g : Nat → Nat} {m n : Nat} (hf : ∀ i j, i < j → j < m → f i < f j) (hg : ∀ i j, i < j → j < n → g i < g j)
    (h1 : ∀ i, i < m → ∃ j, j < n ∧ g j = f i) (h2 : ∀ j, j < n → ∃ i, i < m ∧ f i = g j) : m = n ∧ ∀ i, i < m → f i = g i := by
  have key : ∀ i, i < m → i < n → f i = g i := by
    intro i
    induction i using Nat.strongRecOn with
    | _ i ih =>
      intro hm hn
      obtain ⟨j, hj, ej⟩ := h1 i hm
      obtain ⟨k, hk, ek⟩ := h2 i hn
      have a : i ≤ j := by
        apply Classical.byContradiction; intro hc
        have := ih j (by omega) (by omega) hj
        have := hf j i (by omega) hm
        omega
      have b : i ≤ k := by
        apply Classical.byContradiction; intro hc
        have := ih k (by omega) hk (by omega)
        have := hg k i (by omega) hn
        omega
      have c : g i ≤ g j := by
        by_cases e : i = j
        · subst e; omega
        · have := hg i j (by omega) hj; omega
      have d : f i ≤ f k := by
        by_cases e : i = k
        · subst e; omega
        · have := hf i k (by omega) hk; omega
      omega
  have hmn : m = n := by
    apply Classical.byContradiction; intro hne
    by_cases hlt : m < n
    · obtain ⟨i, hi, ei⟩ := h2 m hlt
      have := key i hi (by omega)
      have := hg i m hi hlt
      omega
    · obtain ⟨j, hj, ej⟩ := h1 n (by omega)
      have := key j (by omega) hj
      have := hf j n hj (by omega)
      omega
  exact ⟨hmn, fun i hi => key i hi (by omega)⟩

theorem one_ne_zero (h2 : 2 ≤ p) : (1 : Fin p) ≠ 0 := by
  intro h
  rw [← phi_one, ← phi_zero] at h
  have := phi_inj h
  rw [Int.emod_eq_of_lt (by omega) (by omega)] at this
  simp at this

/-- Reduced rows in order are told by their span. -/
theorem RR.unique (h2 : 2 ≤ p) {R S : Nat → Nat → Fin p} {m n : Nat} {ld ld' : Nat → Nat} (h : RR R m ld) (h' : RR S n ld')
    (ho : ∀ i j, i < j → j < m → ld i < ld j) (ho' : ∀ i j, i < j → j < n → ld' i < ld' j) (hs : ∀ v, Span R m v ↔ Span S n v) :
    m = n ∧ ∀ i, i < m → ld i = ld' i ∧ ∀ k, R i k = S i k := by
  have a := asc_unique ho ho'
    (fun i hi => h'.lead_of ((hs _).1 (Span.row R hi)) (l := ld i) (by rw [h.unit i i hi hi, if_pos rfl]; exact one_ne_zero h2) (fun k hk => h.front i k hi hk))
    (fun i hi => h.lead_of ((hs _).2 (Span.row S hi)) (l := ld' i) (by rw [h'.unit i i hi hi, if_pos rfl]; exact one_ne_zero h2) (fun k hk => h'.front i k hi hk))
  obtain ⟨rfl, hl⟩ := a
  refine ⟨rfl, fun i hi => ⟨hl i hi, fun k => ?_⟩⟩
  rw [h'.told ((hs _).1 (Span.row R hi)) k]
  rw [sm_single i hi (fun j hj hne => by rw [← hl j hj, h.unit i j hi hj, if_neg (fun e => hne e.symm)]; grind)]
  rw [← hl i hi, h.unit i i hi hi, if_pos rfl]; grind
end
end Go.Proofs.YtcdbeepphdfipaaGreatDoor.Mat

namespace Go.Proofs.YtcdbeepphdfipaaGreatDoor
set_option linter.unusedVariables false

theorem tmod_bounds (n p : Int) (hp : 0 < p) : -p < n.tmod p ∧ n.tmod p < p := by
  have h1 := Int.tmod_lt_of_pos n hp
  have h2 := Int.tmod_lt_of_pos (-n) hp
  rw [Int.neg_tmod] at h2
  omega

theorem tmod_pos (n p : Int) (hp : 0 < p) : (n.tmod p + p) % p = n % p := by
  rw [Int.add_emod_right, Int.tmod_eq_emod]
  split
  · simp
  · have : (p.natAbs : Int) = p := by omega
    rw [this, Int.sub_emod_right, Int.emod_emod]

/-- low ≤ n ≤ high, as the program tells it. -/
def inB (n lo hi : Int) : Bool := decide (lo ≤ n ∧ n ≤ hi)
theorem inB_iff {n lo hi : Int} : inB n lo hi = true ↔ lo ≤ n ∧ n ≤ hi := by simp [inB]
theorem inB_false {n lo hi : Int} : inB n lo hi = false ↔ ¬ (lo ≤ n ∧ n ≤ hi) := by simp only [inB, decide_eq_false_iff_not]

/-- p is one of the primes. -/
def prB (p : Int) : Bool := decide (p = 2 ∨ p = 3 ∨ p = 5 ∨ p = 7)
theorem prB_iff {p : Int} : prB p = true ↔ p = 2 ∨ p = 3 ∨ p = 5 ∨ p = 7 := by simp [prB]
theorem prB_bounds {p : Int} (h : prB p = true) : 2 ≤ p ∧ p ≤ 7 := by rw [prB_iff] at h; omega

/-- The inverse of a number: the first one whose product leaves 1. -/
def invZ (p x : Int) : Int := if x * 1 % p = 1 then 1 else if x * 2 % p = 1 then 2 else if x * 3 % p = 1 then 3 else if x * 4 % p = 1 then 4 else if x * 5 % p = 1 then 5 else 6

theorem invZ_spec {p x : Int} (hp : prB p = true) (h1 : 1 ≤ x) (h2 : x < p) : 1 ≤ invZ p x ∧ invZ p x < p ∧ x * invZ p x % p = 1 := by
  rw [prB_iff] at hp
  rcases hp with rfl | rfl | rfl | rfl
  · obtain rfl : x = 1 := by omega
    decide
  · rcases (show x = 1 ∨ x = 2 by omega) with rfl | rfl <;> decide
  · rcases (show x = 1 ∨ x = 2 ∨ x = 3 ∨ x = 4 by omega) with rfl | rfl | rfl | rfl <;> decide
  · rcases (show x = 1 ∨ x = 2 ∨ x = 3 ∨ x = 4 ∨ x = 5 ∨ x = 6 by omega) with rfl | rfl | rfl | rfl | rfl | rfl <;> decide

theorem mul_small {x y : Int} (h1 : 0 ≤ x) (h2 : x ≤ 100) (h3 : 0 ≤ y) (h4 : y ≤ 100) : 0 ≤ x * y ∧ x * y ≤ 10000 := by
  refine ⟨Int.mul_nonneg h1 h3, ?_⟩
  have := Int.mul_le_mul h2 h4 h3 (by omega : (0 : Int) ≤ 100)
  omega

/-- No number below the inverse has a product that leaves 1. -/
theorem invZ_first {p x y : Int} (hp : prB p = true) (h1 : 1 ≤ x) (h2 : x < p) (hy : 1 ≤ y) (hy2 : y < p) (h : x * y % p = 1) : y = invZ p x := by
  rw [prB_iff] at hp
  have hx : x = 1 ∨ x = 2 ∨ x = 3 ∨ x = 4 ∨ x = 5 ∨ x = 6 := by omega
  have hyy : y = 1 ∨ y = 2 ∨ y = 3 ∨ y = 4 ∨ y = 5 ∨ y = 6 := by omega
  rcases hp with rfl | rfl | rfl | rfl <;> rcases hx with rfl | rfl | rfl | rfl | rfl | rfl <;> rcases hyy with rfl | rfl | rfl | rfl | rfl | rfl <;>
    first | rfl | (revert h; decide) | omega

/-- 2 to a number. -/
def pw (n : Nat) : Int := 2 ^ n
theorem pw_zero : pw 0 = 1 := rfl
theorem pw_succ (n : Nat) : pw (n + 1) = 2 * pw n := by unfold pw; rw [Int.pow_succ]; omega
theorem pw_pos (n : Nat) : 1 ≤ pw n := by
  induction n with
  | zero => simp [pw]
  | succ n ih => rw [pw_succ]; omega
theorem pw_mono {m n : Nat} (h : m ≤ n) : pw m ≤ pw n := by
  induction n with
  | zero => obtain rfl : m = 0 := by omega
            omega
  | succ n ih =>
    by_cases e : m = n + 1
    · subst e; omega
    · have := ih (by omega); have := pw_pos n; rw [pw_succ]; omega
theorem pw_40 {n : Nat} (h : n ≤ 40) : pw n ≤ 1099511627776 := by have := pw_mono h; have e : pw 40 = 1099511627776 := by decide
                                                                  omega

/-- The bit of a number, 0 or 1. -/
def bt (x : Int) (j : Nat) : Int := x / pw j % 2
theorem bt_01 (x : Int) (j : Nat) : bt x j = 0 ∨ bt x j = 1 := by unfold bt; omega

/-- How many bits of a number below 2 to the n are 1. -/
def wt : Nat → Int → Int
  | 0, _ => 0
  | n + 1, x => x % 2 + wt n (x / 2)

theorem wt_zero (n : Nat) : wt n 0 = 0 := by
  induction n with
  | zero => rfl
  | succ n ih => simp [wt, ih]

theorem wt_bounds (n : Nat) (x : Int) : 0 ≤ wt n x ∧ wt n x ≤ n := by
  induction n generalizing x with
  | zero => simp [wt]
  | succ n ih => have := ih (x / 2); simp only [wt]; omega

/-- More places than a number has change nothing. -/
theorem wt_more (n : Nat) (x : Int) (h0 : 0 ≤ x) (h : x < pw n) : wt (n + 1) x = wt n x := by
  induction n generalizing x with
  | zero => have : x = 0 := by simp [pw] at h; omega
            subst this; rfl
  | succ n ih =>
    rw [wt, ih (x / 2) (by omega) (by rw [pw_succ] at h; omega)]
    rfl
end Go.Proofs.YtcdbeepphdfipaaGreatDoor

namespace Go.Proofs.YtcdbeepphdfipaaGreatDoor
open Go.RowKit
set_option linter.unusedVariables false

/-- The i-th number, 0 beyond the end. -/
def gi (xs : List Int) (i : Nat) : Int := xs.getD i 0
/-- The i-th row, none beyond the end. -/
def gr (xs : List (List Int)) (i : Nat) : List Int := xs.getD i []
/-- The i-th value. -/
def gv (xs : List Value) (i : Nat) : Value := xs.getD i undef

theorem gi_lt {xs : List Int} {i : Nat} (h : i < xs.length) : gi xs i = xs[i] := by simp [gi, h]
theorem gr_lt {xs : List (List Int)} {i : Nat} (h : i < xs.length) : gr xs i = xs[i] := by simp [gr, h]
theorem gv_lt {xs : List Value} {i : Nat} (h : i < xs.length) : gv xs i = xs[i] := by simp [gv, h]

/-- Of the blocks that were there, those outside S are as they were. -/
structure Chg (S : Nat → Prop) (w w' : World) : Prop where
  os : w'.os = w.os
  tape : w'.tape = w.tape
  output : w'.output = w.output
  size : w.heap.size ≤ w'.heap.size
  block : ∀ k, k < w.heap.size → ¬ S k → w'.heap[k]? = w.heap[k]?

/-- Nothing that was there has turned. -/
abbrev New (w w' : World) : Prop := Chg (fun _ => False) w w'

theorem Chg.refl (S : Nat → Prop) (w : World) : Chg S w w := ⟨rfl, rfl, rfl, Nat.le_refl _, fun _ _ _ => rfl⟩

theorem Chg.trans {S T U : Nat → Prop} {a b c : World} (h : Chg S a b) (k : Chg T b c) (hS : ∀ i, i < a.heap.size → S i → U i) (hT : ∀ i, i < a.heap.size → T i → U i) : Chg U a c :=
  ⟨k.os.trans h.os, k.tape.trans h.tape, k.output.trans h.output, Nat.le_trans h.size k.size,
    fun i hi hU => (k.block i (Nat.lt_of_lt_of_le hi h.size) (fun x => hU (hT i hi x))).trans (h.block i hi (fun x => hU (hS i hi x)))⟩

theorem Chg.mono {S T : Nat → Prop} {a b : World} (h : Chg S a b) (hS : ∀ i, i < a.heap.size → S i → T i) : Chg T a b :=
  ⟨h.os, h.tape, h.output, h.size, fun i hi hT => h.block i hi (fun x => hT (hS i hi x))⟩

theorem New.trans {a b c : World} (h : New a b) (k : New b c) : New a c := Chg.trans h k (fun _ _ x => x) (fun _ _ x => x)

/-- A step that turns only what is newer than a. -/
theorem New.then {S : Nat → Prop} {a b c : World} (h : New a b) (k : Chg S b c) (hS : ∀ i, S i → a.heap.size ≤ i) : New a c :=
  Chg.trans h k (fun _ _ x => x) (fun i hi x => by have := hS i x; omega)

theorem New.alloc (w : World) (o : Obj) : New w (w.alloc o) :=
  ⟨rfl, rfl, rfl, by simp, fun k hk _ => Below.heap_alloc w o k hk⟩

theorem Chg.alloc {S : Nat → Prop} {a w : World} (h : Chg S a w) (o : Obj) : Chg S a (w.alloc o) :=
  Chg.trans h (New.alloc w o) (fun _ _ x => x) (fun _ _ x => x.elim)

theorem New.drew (w : World) : New w w.drew := ⟨rfl, rfl, rfl, Nat.le_refl _, fun _ _ _ => rfl⟩

theorem New.drewN (w : World) (n : Nat) : New w (w.drewN n) := ⟨rfl, rfl, rfl, Nat.le_refl _, fun _ _ _ => rfl⟩

theorem Chg.setCell (w : World) (a : Addr) (u : Value) : Chg (· = a.block) w (w.setCell a u) :=
  ⟨rfl, rfl, rfl, by simp [World.setCell], fun k _ hk => Below.heap_setCell _ _ _ _ hk⟩

theorem Chg.below {w w' : World} (h : New w w') : Below w.heap.size w w' :=
  ⟨h.os, h.tape, h.output, h.size, fun k hk => h.block k hk (fun x => x)⟩

theorem Chg.of_grown {w w' : World} {row : Option Nat} (h : w.grownBy w' row) : Chg (fun k => row = some k) w w' :=
  ⟨h.os, h.tape, h.output, h.size, fun k hk hr => h.block k hk (fun e => hr e.symm)⟩

theorem Chg.of_below {w w' : World} (h : Below w.heap.size w w') : New w w' :=
  ⟨h.os, h.tape, h.output, h.size, fun k hk _ => h.block k hk⟩

theorem Chg.cell {S : Nat → Prop} {w w' : World} (h : Chg S w w') {a : Addr} {v : Value} (hc : w.cell? a = some v) (hS : ¬ S a.block) : w'.cell? a = some v :=
  (World.cell?_of_block (w := w) (h.block a.block (World.block_lt_of_cell? w a hc) hS)).trans hc

theorem Chg.cellNew {w w' : World} (h : New w w') {a : Addr} {v : Value} (hc : w.cell? a = some v) : w'.cell? a = some v := h.cell hc (fun x => x)

theorem Chg.heapAt {S : Nat → Prop} {w w' : World} (h : Chg S w w') {g : Nat} {o : Obj} (hc : w.heap[g]? = some o) (hS : ¬ S g) : w'.heap[g]? = some o :=
  (h.block g (Array.getElem?_eq_some_iff.1 hc).1 hS).trans hc

theorem cell_of_heap {w : World} {g : Nat} {cur : Array Value} {e : TypeId} {fz : Nat × Nat} (h : w.heap[g]? = some (.cells cur e fz)) (j : Nat) : w.cell? ⟨g, j, none⟩ = cur[j]? := by
  simp [World.cell?, h]

theorem frozen_of_heap {w : World} {g : Nat} {cur : Array Value} {e : TypeId} (h : w.heap[g]? = some (.cells cur e (0, 0))) (j : Nat) : w.frozen? ⟨g, j, none⟩ = false := by
  simp [World.frozen?, h]

/-- A length that is no trouble. -/
def Mid (n : Nat) : Prop := n ≤ 1099511627776

/-- v reads as the numbers xs. -/
def IsI (w : World) (v : Value) (xs : List Int) : Prop :=
  ∃ ao cap, v = .slice ao xs.length cap ∧ (xs.length ≤ cap ∧ (ao = none → cap = 0)) ∧ cap ≤ maxLen ∧ Mid xs.length ∧
    ∀ i, i < xs.length → ∃ b o, ao = some ⟨b, o, none⟩ ∧ w.cell? ⟨b, o + i, none⟩ = some (.int .i64 (gi xs i))

theorem IsI.chg {S : Nat → Prop} {w w' : World} {v : Value} {xs : List Int} (h : IsI w v xs) (hc : Chg S w w') (hS : ∀ g, v.ownBlock = some g → ¬ S g) : IsI w' v xs := by
  obtain ⟨ao, cap, rfl, h1, h2, hm, h3⟩ := h
  refine ⟨ao, cap, rfl, h1, h2, hm, fun i hi => ?_⟩
  obtain ⟨b, o, rfl, hcell⟩ := h3 i hi
  exact ⟨b, o, rfl, hc.cell hcell (hS b rfl)⟩

theorem IsI.new {w w' : World} {v : Value} {xs : List Int} (h : IsI w v xs) (hc : New w w') : IsI w' v xs := h.chg hc (fun _ _ x => x)

/-- v reads as rows of numbers. -/
def IsR (w : World) (v : Value) (rows : List (List Int)) : Prop :=
  ∃ ao cap, v = .slice ao rows.length cap ∧ (rows.length ≤ cap ∧ (ao = none → cap = 0)) ∧ cap ≤ maxLen ∧ Mid rows.length ∧
    ∀ i, i < rows.length → ∃ b o u, ao = some ⟨b, o, none⟩ ∧ w.cell? ⟨b, o + i, none⟩ = some u ∧ IsI w u (gr rows i)

theorem IsR.new {w w' : World} {v : Value} {rows : List (List Int)} (h : IsR w v rows) (hc : New w w') : IsR w' v rows := by
  obtain ⟨ao, cap, rfl, h1, h2, hm, h3⟩ := h
  refine ⟨ao, cap, rfl, h1, h2, hm, fun i hi => ?_⟩
  obtain ⟨b, o, u, rfl, hcell, hu⟩ := h3 i hi
  exact ⟨b, o, u, rfl, hc.cell hcell (fun x => x), hu.new hc⟩

/-- IsI laid open: the shape, the length by a name of its own. -/
theorem IsI.opened {w : World} {v : Value} {xs : List Int} (h : IsI w v xs) : ∃ ao n cap, v = .slice ao n cap ∧ Hid (n = xs.length) ∧ n ≤ cap ∧ n ≤ 1099511627776 ∧ Hid (cap ≤ maxLen) ∧
    ∀ i, i < n → ∃ b o, ao = some ⟨b, o, none⟩ ∧ w.cell? ⟨b, o + i, none⟩ = some (.int .i64 (gi xs i)) := by
  obtain ⟨ao, cap, rfl, h1, h2, hm, h3⟩ := h
  exact ⟨ao, _, cap, rfl, rfl, h1.1, hm, h2, h3⟩

theorem IsR.opened {w : World} {v : Value} {rows : List (List Int)} (h : IsR w v rows) : ∃ ao n cap, v = .slice ao n cap ∧ Hid (n = rows.length) ∧ n ≤ cap ∧ n ≤ 1099511627776 ∧ Hid (cap ≤ maxLen) ∧
    ∀ i, i < n → ∃ b o u, ao = some ⟨b, o, none⟩ ∧ w.cell? ⟨b, o + i, none⟩ = some u ∧ IsI w u (gr rows i) := by
  obtain ⟨ao, cap, rfl, h1, h2, hm, h3⟩ := h
  exact ⟨ao, _, cap, rfl, rfl, h1.1, hm, h2, h3⟩

theorem IsI.len {w : World} {ao : Option Addr} {n cap : Nat} {xs : List Int} (h : IsI w (.slice ao n cap) xs) : n = xs.length := by
  obtain ⟨ao, cap, e, _⟩ := h
  simp at e; exact e.2.1

theorem IsR.len {w : World} {ao : Option Addr} {n cap : Nat} {xs : List (List Int)} (h : IsR w (.slice ao n cap) xs) : n = xs.length := by
  obtain ⟨ao, cap, e, _⟩ := h
  simp at e; exact e.2.1

theorem IsI.at {w : World} {ao : Option Addr} {n cap : Nat} {xs : List Int} (h : IsI w (.slice ao n cap) xs) {i : Nat} (hi : i < n) :
    ∃ b o, ao = some ⟨b, o, none⟩ ∧ w.cell? ⟨b, o + i, none⟩ = some (.int .i64 (gi xs i)) := by
  obtain ⟨ao', cap', e, _, _, _, h3⟩ := h
  simp at e
  obtain ⟨rfl, rfl, rfl⟩ := e
  exact h3 i hi

theorem IsR.at {w : World} {ao : Option Addr} {n cap : Nat} {xs : List (List Int)} (h : IsR w (.slice ao n cap) xs) {i : Nat} (hi : i < n) :
    ∃ b o u, ao = some ⟨b, o, none⟩ ∧ w.cell? ⟨b, o + i, none⟩ = some u ∧ IsI w u (gr xs i) := by
  obtain ⟨ao', cap', e, _, _, _, h3⟩ := h
  simp at e
  obtain ⟨rfl, rfl, rfl⟩ := e
  exact h3 i hi

theorem IsI.nilCap {w : World} {n cap : Nat} {xs : List Int} (h : IsI w (.slice none n cap) xs) : n = 0 ∧ cap = 0 := by
  obtain ⟨ao', cap', e, h1, _⟩ := h
  simp at e
  obtain ⟨rfl, rfl, rfl⟩ := e
  have := h1.2 rfl
  omega

theorem IsR.nilCap {w : World} {n cap : Nat} {xs : List (List Int)} (h : IsR w (.slice none n cap) xs) : n = 0 ∧ cap = 0 := by
  obtain ⟨ao', cap', e, h1, _⟩ := h
  simp at e
  obtain ⟨rfl, rfl, rfl⟩ := e
  have := h1.2 rfl
  omega

/-- The shape alone. -/
theorem IsI.shape {w : World} {v : Value} {xs : List Int} (h : IsI w v xs) : ∃ ao n cap, v = .slice ao n cap ∧ Hid (n = xs.length) ∧ n ≤ 1099511627776 := by
  obtain ⟨ao, cap, rfl, h1, h2, hm, h3⟩ := h
  exact ⟨ao, _, cap, rfl, rfl, hm⟩

theorem IsR.shape {w : World} {v : Value} {rows : List (List Int)} (h : IsR w v rows) : ∃ ao n cap, v = .slice ao n cap ∧ Hid (n = rows.length) ∧ n ≤ 1099511627776 := by
  obtain ⟨ao, cap, rfl, h1, h2, hm, h3⟩ := h
  exact ⟨ao, _, cap, rfl, rfl, hm⟩

/-- v is a slice of the elements xs, at the head of a block of its own that may be written. -/
def Own (w : World) (e : TypeId) (v : Value) (xs : List Value) : Prop :=
  (v = .slice none 0 0 ∧ xs = []) ∨
  ∃ g cap cur, v = .slice (some ⟨g, 0, none⟩) xs.length cap ∧ w.heap[g]? = some (.cells cur e (0, 0)) ∧ xs.length ≤ cap ∧ cap ≤ maxLen ∧ cap ≤ cur.size ∧ cur.toList.take xs.length = xs

theorem Own.chg {S : Nat → Prop} {w w' : World} {e : TypeId} {v : Value} {xs : List Value} (h : Own w e v xs) (hc : Chg S w w') (hS : ∀ g, v.ownBlock = some g → ¬ S g) : Own w' e v xs := by
  rcases h with h | ⟨g, cap, cur, rfl, hg, r⟩
  · exact .inl h
  · exact .inr ⟨g, cap, cur, rfl, hc.heapAt hg (hS g rfl), r⟩

theorem Own.new {w w' : World} {e : TypeId} {v : Value} {xs : List Value} (h : Own w e v xs) (hc : New w w') : Own w' e v xs := h.chg hc (fun _ _ x => x)

theorem Own.lt {w : World} {e : TypeId} {v : Value} {xs : List Value} (h : Own w e v xs) {g : Nat} (hg : v.ownBlock = some g) : g < w.heap.size := by
  rcases h with ⟨rfl, _⟩ | ⟨g', cap, cur, rfl, hh, _⟩
  · simp [Value.ownBlock] at hg
  · simp [Value.ownBlock] at hg
    subst hg
    exact (Array.getElem?_eq_some_iff.1 hh).1

theorem Own.nil (w : World) (e : TypeId) : Own w e (.slice none 0 0) [] := .inl ⟨rfl, rfl⟩

theorem take_get {cur : Array Value} {xs : List Value} (h : cur.toList.take xs.length = xs) {i : Nat} (hi : i < xs.length) : cur[i]? = some (gv xs i) := by
  rw [gv_lt hi]
  have h1 : (cur.toList.take xs.length)[i]? = xs[i]? := by rw [h]
  rw [List.getElem?_take, if_pos hi, List.getElem?_eq_getElem hi, Array.getElem?_toList] at h1
  exact h1

theorem Own.cell {w : World} {e : TypeId} {xs : List Value} {g n cap : Nat} (h : Own w e (.slice (some ⟨g, 0, none⟩) n cap) xs) {i : Nat} (hi : i < xs.length) :
    w.cell? ⟨g, i, none⟩ = some (gv xs i) ∧ w.frozen? ⟨g, i, none⟩ = false := by
  rcases h with ⟨h, _⟩ | ⟨g', cap', cur, hv, hh, _, _, _, ht⟩
  · simp at h
  · simp at hv
    obtain ⟨rfl, _, rfl⟩ := hv
    exact ⟨by rw [cell_of_heap hh]; exact take_get ht hi, frozen_of_heap hh i⟩

/-- The shape of what is owned. -/
theorem Own.shape {w : World} {e : TypeId} {v : Value} {xs : List Value} (h : Own w e v xs) (hx : xs ≠ []) : ∃ g cap, v = .slice (some ⟨g, 0, none⟩) xs.length cap ∧ xs.length ≤ cap ∧ cap ≤ maxLen := by
  rcases h with ⟨_, h⟩ | ⟨g, cap, cur, hv, _, h1, h2, _⟩
  · exact absurd h hx
  · exact ⟨g, cap, hv, h1, h2⟩

theorem Own.shape' {w : World} {e : TypeId} {v : Value} {xs : List Value} (h : Own w e v xs) : ∃ ao cap, v = .slice ao xs.length cap ∧ xs.length ≤ cap ∧ cap ≤ maxLen := by
  rcases h with ⟨h, rfl⟩ | ⟨g, cap, cur, hv, _, h1, h2, _⟩
  · exact ⟨none, 0, h, by simp, by simp [maxLen]⟩
  · exact ⟨_, cap, hv, h1, h2⟩

theorem Own.head {w : World} {e : TypeId} {ao : Option Addr} {n cap : Nat} {xs : List Value} (h : Own w e (.slice ao n cap) xs) {i : Nat} (hi : i < xs.length) : ∃ g, ao = some ⟨g, 0, none⟩ := by
  rcases h with ⟨_, h⟩ | ⟨g, cap, cur, hv, _⟩
  · subst h; simp at hi
  · simp at hv; exact ⟨g, hv.1⟩

theorem Own.len {w : World} {e : TypeId} {ao : Option Addr} {n cap : Nat} {xs : List Value} (h : Own w e (.slice ao n cap) xs) : n = xs.length := by
  rcases h with ⟨h, h'⟩ | ⟨g, cap, cur, hv, _⟩
  · simp at h; subst h'; simp [h.2.1]
  · simp at hv; exact hv.2.1

/-- The shape, the length by a name of its own. -/
theorem Own.opened {w : World} {e : TypeId} {v : Value} {xs : List Value} (h : Own w e v xs) (hm : Mid xs.length) : ∃ ao n cap, v = .slice ao n cap ∧ Hid (n = xs.length) ∧ n ≤ 1099511627776 ∧ Hid (n ≤ cap ∧ cap ≤ maxLen) := by
  obtain ⟨ao, cap, rfl, h1, h2⟩ := h.shape'
  exact ⟨ao, _, cap, rfl, rfl, hm, h1, h2⟩

theorem Own.isI {w : World} {e : TypeId} {v : Value} {xs : List Int} (h : Own w e v (xs.map (Value.int .i64))) (hm : Mid xs.length) : IsI w v xs := by
  rcases h with ⟨rfl, h⟩ | ⟨g, cap, cur, rfl, hh, h1, h2, h3, ht⟩
  · simp at h; subst h
    exact ⟨none, 0, rfl, by simp, by simp [maxLen], hm, fun i hi => by simp at hi⟩
  · simp only [List.length_map] at *
    refine ⟨_, cap, rfl, ⟨h1, by simp⟩, h2, hm, fun i hi => ⟨g, 0, rfl, ?_⟩⟩
    rw [Nat.zero_add, cell_of_heap hh, take_get (xs := xs.map (Value.int .i64)) (by simpa using ht) (by simpa using hi), gv_lt (by simpa using hi), gi_lt hi]
    simp

theorem Own.set {w : World} {e : TypeId} {xs : List Value} {g n cap : Nat} (h : Own w e (.slice (some ⟨g, 0, none⟩) n cap) xs) (i : Nat) (u : Value) :
    Own (w.setCell ⟨g, i, none⟩ u) e (.slice (some ⟨g, 0, none⟩) n cap) (xs.set i u) := by
  rcases h with ⟨h, _⟩ | ⟨g', cap', cur, hv, hh, h1, h2, h3, ht⟩
  · simp at h
  · simp at hv
    obtain ⟨rfl, rfl, rfl⟩ := hv
    refine .inr ⟨g, cap, cur.setIfInBounds i u, by simp, ?_, by simpa using h1, h2, by simpa using h3, ?_⟩
    · simp [World.setCell, Array.getElem?_modify, hh]
    · rw [Array.toList_setIfInBounds, List.length_set, List.take_set, ht]

/-- Two values with no block in common. -/
def Apart (u v : Value) : Prop := ∀ g, u.ownBlock = some g → v.ownBlock ≠ some g

theorem Apart.symm {u v : Value} (h : Apart u v) : Apart v u := fun g hv hu => h g hu hv

/-- A value whose block, if any, is from B on. -/
def From (B : Nat) (v : Value) : Prop := ∀ g, v.ownBlock = some g → B ≤ g

theorem From.mono {B C : Nat} {v : Value} (h : From B v) (hc : C ≤ B) : From C v := fun g hg => Nat.le_trans hc (h g hg)

theorem From.apart {w : World} {e : TypeId} {u v : Value} {xs : List Value} (h : From w.heap.size v) (hu : Own w e u xs) : Apart u v := fun g hg hv => by
  have := hu.lt hg
  have := h g hv
  omega

/-- Rows of numbers, each in a block of its own, in an outer block of its own. -/
structure OwnR (w : World) (eo ei : TypeId) (v : Value) (vs : List Value) (rows : List (List Int)) : Prop where
  outer : Own w eo v vs
  len : vs.length = rows.length
  inner : ∀ i, i < rows.length → Own w ei (gv vs i) ((gr rows i).map (Value.int .i64))
  apart : ∀ i j, i < rows.length → j < rows.length → i ≠ j → Apart (gv vs i) (gv vs j)

theorem OwnR.chg {S : Nat → Prop} {w w' : World} {eo ei : TypeId} {v : Value} {vs : List Value} {rows : List (List Int)} (h : OwnR w eo ei v vs rows) (hc : Chg S w w')
    (hS : ∀ g, v.ownBlock = some g → ¬ S g) (hS' : ∀ i, i < rows.length → ∀ g, (gv vs i).ownBlock = some g → ¬ S g) : OwnR w' eo ei v vs rows :=
  ⟨h.outer.chg hc hS, h.len, fun i hi => (h.inner i hi).chg hc (hS' i hi), h.apart⟩

theorem OwnR.new {w w' : World} {eo ei : TypeId} {v : Value} {vs : List Value} {rows : List (List Int)} (h : OwnR w eo ei v vs rows) (hc : New w w') : OwnR w' eo ei v vs rows :=
  h.chg hc (fun _ _ x => x) (fun _ _ _ _ x => x)

/-- The outer block is none of the inner ones (their elements' types part). -/
theorem OwnR.outer_apart {w : World} {eo ei : TypeId} {v : Value} {vs : List Value} {rows : List (List Int)} (h : OwnR w eo ei v vs rows) (hne : eo ≠ ei) {i : Nat} (hi : i < rows.length) : Apart v (gv vs i) := by
  intro g hg hg'
  have h1 := h.outer
  have h2 := h.inner i hi
  rcases h1 with ⟨rfl, _⟩ | ⟨g1, c1, cur1, rfl, hh1, _⟩
  · simp [Value.ownBlock] at hg
  · rcases h2 with ⟨h2, _⟩ | ⟨g2, c2, cur2, h2, hh2, _⟩
    · rw [h2] at hg'; simp [Value.ownBlock] at hg'
    · rw [h2] at hg'
      simp [Value.ownBlock] at hg hg'
      subst hg; subst hg'
      rw [hh1] at hh2
      simp at hh2
      exact hne hh2.2

theorem OwnR.isR {w : World} {eo ei : TypeId} {v : Value} {vs : List Value} {rows : List (List Int)} (h : OwnR w eo ei v vs rows) (hm : Mid rows.length) (hms : ∀ i, i < rows.length → Mid (gr rows i).length) : IsR w v rows := by
  obtain ⟨h1, h2, h3, _⟩ := h
  rcases h1 with ⟨rfl, h⟩ | ⟨g, cap, cur, rfl, hh, ha, hb, hc, ht⟩
  · subst h
    have h0 : rows.length = 0 := by simpa using h2.symm
    exact ⟨none, 0, by rw [h0], ⟨by omega, by simp⟩, by simp [maxLen], hm, fun i hi => by omega⟩
  · refine ⟨_, cap, by rw [h2], ⟨by omega, by simp⟩, hb, hm, fun i hi => ⟨g, 0, gv vs i, rfl, ?_, (h3 i hi).isI (hms i hi)⟩⟩
    rw [Nat.zero_add, cell_of_heap hh]
    exact take_get ht (by omega)

/-- The i-th row has turned, all else stands. -/
theorem OwnR.turn {S : Nat → Prop} {w w' : World} {eo ei : TypeId} {v : Value} {vs : List Value} {rows : List (List Int)} (h : OwnR w eo ei v vs rows) (hne : eo ≠ ei) {i : Nat} (hi : i < rows.length)
    (hc : Chg S w w') (hS : ∀ g, S g → (gv vs i).ownBlock = some g) {xs : List Int} (hx : Own w' ei (gv vs i) (xs.map (Value.int .i64))) : OwnR w' eo ei v vs (rows.set i xs) := by
  refine ⟨h.outer.chg hc (fun g hg hs => h.outer_apart hne hi g hg (hS g hs)), by simpa using h.len, fun j hj => ?_, fun a b ha hb => h.apart a b (by simpa using ha) (by simpa using hb)⟩
  simp only [List.length_set] at hj
  by_cases e : i = j
  · subst e
    rw [gr_lt (by simpa using hj), List.getElem_set_self]
    exact hx
  · rw [gr_lt (by simpa using hj), List.getElem_set_ne e, ← gr_lt hj]
    exact (h.inner j hj).chg hc (fun g hg hs => h.apart i j hi hj e g (hS g hs) hg)

/-- A row more. -/
theorem OwnR.snoc {w : World} {eo ei : TypeId} {v u : Value} {vs : List Value} {rows : List (List Int)} {xs : List Int} (hv : Own w eo v (vs ++ [u])) (hl : vs.length = rows.length)
    (hin : ∀ i, i < rows.length → Own w ei (gv vs i) ((gr rows i).map (Value.int .i64))) (hap : ∀ i j, i < rows.length → j < rows.length → i ≠ j → Apart (gv vs i) (gv vs j))
    (hu : Own w ei u (xs.map (Value.int .i64))) (hua : ∀ i, i < rows.length → Apart (gv vs i) u) : OwnR w eo ei v (vs ++ [u]) (rows ++ [xs]) := by
  have e1 : ∀ i, i < rows.length → gv (vs ++ [u]) i = gv vs i := fun i hi => by
    rw [gv_lt (by simp; omega), gv_lt (by omega), List.getElem_append_left (by omega)]
  have e2 : gv (vs ++ [u]) rows.length = u := by rw [gv_lt (by simp; omega)]; simp [← hl]
  have e3 : ∀ i, i < rows.length → gr (rows ++ [xs]) i = gr rows i := fun i hi => by
    rw [gr_lt (by simp; omega), gr_lt (by omega), List.getElem_append_left (by omega)]
  have e4 : gr (rows ++ [xs]) rows.length = xs := by rw [gr_lt (by simp)]; simp
  refine ⟨hv, by simp [hl], fun i hi => ?_, fun i j hi hj hne => ?_⟩
  · simp at hi
    by_cases h : i < rows.length
    · rw [e1 i h, e3 i h]; exact hin i h
    · obtain rfl : i = rows.length := by omega
      rw [e2, e4]; exact hu
  · simp at hi hj
    by_cases h : i < rows.length
    · by_cases h' : j < rows.length
      · rw [e1 i h, e1 j h']; exact hap i j h h' hne
      · obtain rfl : j = rows.length := by omega
        rw [e1 i h, e2]; exact hua i h
    · obtain rfl : i = rows.length := by omega
      have h' : j < rows.length := by omega
      rw [e1 j h', e2]; exact (hua j h').symm
end Go.Proofs.YtcdbeepphdfipaaGreatDoor

namespace Go.Proofs.YtcdbeepphdfipaaGreatDoor
open Go.RowKit
set_option linter.unusedVariables false

/-- Slices of type t have elements of type e, one cell each, of at most 24 bytes, with the zero value z. -/
def OneTy (P : Program) (t e : TypeId) (z : Value) : Prop :=
  ∃ i, P.underlying t = some (.slice e) ∧ P.info? e = some i ∧ i.zero = some z ∧ i.size = 1 ∧ i.bytes ≤ 24 ∧ z.cells = #[z]

theorem OneTy.mk {P : Program} {t e : TypeId} {z : Value} {n b : Nat} (h : P.underlying t = some (.slice e)) (hi : (P.info? e).map (fun i => (i.zero, i.size, i.bytes)) = some (some z, n, b)) (hn : n = 1) (hb : b ≤ 24) (hz : z.cells = #[z]) : OneTy P t e z := by
  obtain ⟨i, h1, h2, h3, h4⟩ := info_parts hi
  exact ⟨i, h, h1, h2, by omega, by omega, hz⟩

theorem size_zero1 (z : Value) (hz : z.cells = #[z]) (n : Nat) : (Builtin.zeroCells z.cells n).size = n := by
  rw [size_zeroCells, hz]; simp

/-- append(v, src...) on a slice that owns its block (or is nil). -/
theorem run_app {P : Program} (w : World) {t ty e : TypeId} {z : Value} (T : OneTy P t e z) {v : Value} {xs : List Value} (hv : Own w e v xs)
    (so : Option Addr) (m c : Nat) (news : List Value) (hl : news.length = m) (hnil : so = none → m = 0 ∧ c = 0)
    (hnews : ∀ ad, so = some ad → ∀ j u, news[j]? = some u → w.cell? (ad.add j) = some u) (h1 : ∀ u ∈ news, u.oneCell' = true) (hb : xs.length + m ≤ 1099511627776) :
    ∃ v' w', (Builtin.append_ #[t, t] ty #[v, .slice so m c]).run P w = .ok v' w' ∧ Own w' e v' (xs ++ news) ∧ Chg (fun k => v.ownBlock = some k) w w' ∧
      (∀ g, v'.ownBlock = some g → v.ownBlock = some g ∨ w.heap.size ≤ g) := by
  obtain ⟨i, ht, hi, hz, hs, hby, hzc⟩ := T
  have hbig : (xs.length + m) * i.bytes ≤ 140737488355328 := by
    have := Nat.mul_le_mul hb hby; omega
  cases so with
  | none =>
    obtain ⟨rfl, rfl⟩ := hnil rfl
    obtain rfl : news = [] := List.eq_nil_of_length_eq_zero hl
    refine ⟨v, w, ?_, by simpa using hv, Chg.refl _ _, fun g hg => .inl hg⟩
    rcases hv with ⟨rfl, rfl⟩ | ⟨g, cap, cur, rfl, _, hle, _⟩
    · simp [Builtin.append_, run_underlying ht, sizeOf, typeInfo, hi, Builtin.lenOf, Builtin.firstCells]
    · simp [Builtin.append_, run_underlying ht, sizeOf, typeInfo, hi, Builtin.lenOf, Builtin.firstCells, loadCells, storeCells, hle]
  | some a =>
  have hnews' := hnews a rfl
  rcases hv with ⟨rfl, rfl⟩ | ⟨g, cap, cur, rfl, hg, hnc, hcm, hcs, htake⟩
  · by_cases hm : m = 0
    · subst hm
      obtain rfl : news = [] := List.eq_nil_of_length_eq_zero hl
      refine ⟨.slice none 0 0, w, ?_, Own.nil _ _, Chg.refl _ _, fun g hg => .inl hg⟩
      simp [Builtin.append_, run_underlying ht, sizeOf, typeInfo, hi, Builtin.lenOf, Builtin.firstCells, loadCells, loadCellsFrom]
    · have hr := run_append_nil (P := P) w t ty e i z ht hi hz a m c news (by rw [hs]; omega) hnews' (by omega) (by omega) (by have := hbig; simp at this; omega)
      have hge := grownCap_ge w m 0 e
      have hcm : grownCap w m 0 e ≤ maxLen := grownCap_le_maxLen w m 0 e (by simp only [maxLen]; simp at hb; omega)
      refine ⟨_, _, hr, .inr ⟨w.heap.size, _, _, by simp [hl], heap_alloc_new w.drew _, by simp; omega, hcm, ?_, ?_⟩, ⟨rfl, rfl, rfl, by simp, fun k hk _ => Below.heap_alloc w.drew _ k hk⟩, fun g hg => ?_⟩
      · rw [Array.size_append, size_zero1 z hzc]; simp; omega
      · simp
      · simp [Value.ownBlock] at hg; exact .inr (by omega)
  · by_cases hroom : xs.length + m ≤ cap
    · have hr := run_append_room (P := P) w t ty e i ht hi g xs.length cap cur hg a m c news (by rw [hs]; omega) hnews' h1 hroom (by rw [hs, hl]; omega)
      refine ⟨_, _, hr, .inr ⟨g, cap, _, by simp [hl], setRow_heap w g cur _ e _ hg, by simp; omega, hcm, ?_, ?_⟩, ⟨rfl, rfl, rfl, by simp [World.setRow], fun k _ hk => setRow_other w g k _ (fun e => hk (by simp [Value.ownBlock, e]))⟩, fun g' hg' => .inl (by simpa [Value.ownBlock] using hg')⟩
      · simp only [List.size_toArray, List.length_append, List.length_take, List.length_drop, Array.length_toList, hs, hl]
        omega
      · rw [hs, Nat.mul_one, htake]
        exact List.take_left
    · have holds : ∀ j u, xs[j]? = some u → w.cell? ((⟨g, 0, none⟩ : Addr).add j) = some u := by
        intro j u hu
        have hj : j < xs.length := (List.getElem?_eq_some_iff.1 hu).1
        rw [Addr.add_lit, Nat.zero_add, cell_of_heap hg, take_get htake hj, gv_lt hj]
        rw [List.getElem?_eq_getElem hj] at hu; exact hu
      have hr := run_append_grow (P := P) w t ty e i z ht hi hz ⟨g, 0, none⟩ xs.length cap xs (by rw [hs]; omega) holds a m c news (by rw [hs]; omega) hnews' (by omega) (by omega) (growslice_fits (by omega) hbig)
      have hge := grownCap_ge w (xs.length + m) cap e
      have hcm' : grownCap w (xs.length + m) cap e ≤ maxLen := grownCap_le_maxLen w (xs.length + m) cap e (by simp only [maxLen]; omega)
      refine ⟨_, _, hr, .inr ⟨w.heap.size, _, _, by simp [hl], heap_alloc_new w.drew _, by simp; omega, hcm', ?_, ?_⟩, ⟨rfl, rfl, rfl, by simp, fun k hk _ => Below.heap_alloc w.drew _ k hk⟩, fun g hg => ?_⟩
      · rw [Array.size_append, size_zero1 z hzc]; simp; omega
      · rw [Array.toList_append, Array.toList_append]
        show List.take (xs ++ news).length ((xs ++ news) ++ _) = _
        exact List.take_left
      · simp [Value.ownBlock] at hg; exact .inr (by omega)

theorem wpList_app {P : Program} {w : World} {ops : Array Oper} {rest : List Oper} {o : Oper} {a : Act} {Q : Exit → Act → World → Prop} (hgd : o.guard = none) (s x : Operand) (t : TypeId)
    (ho : o.op = .call { callee := .builtin .append, args := #[s, x], argTypes := #[t, t] })
    {e : TypeId} {z : Value} (T : OneTy P t e z) {v : Value} {xs : List Value} (hv : Own w e v xs) (hs : a.eval s = v)
    (so : Option Addr) (m c : Nat) (news : List Value) (hx : a.eval x = .slice so m c) (hl : news.length = m) (hnil : so = none → m = 0 ∧ c = 0)
    (hnews : ∀ ad, so = some ad → ∀ j u, news[j]? = some u → w.cell? (ad.add j) = some u) (h1 : ∀ u ∈ news, u.oneCell' = true) (hb : xs.length + m ≤ 1099511627776)
    (h : ∀ v' w', Own w' e v' (xs ++ news) → Chg (fun k => v.ownBlock = some k) w w' → (∀ g, v'.ownBlock = some g → v.ownBlock = some g ∨ w.heap.size ≤ g) → wpList P ops Q rest (a.put o.dst v') w') :
    wpList P ops Q (o :: rest) a w := by
  refine wpList_plain hgd fun K hK => ?_
  obtain ⟨v', w', hr, h2, h3, h4⟩ := run_app (P := P) w (ty := o.type) T hv so m c news hl hnil hnews h1 hb
  unfold Oper.wp execOp
  simp only [ho, resolve, invoke, builtin, Sem.run_bind, Sem.run_pure, Result.andThen_ok, List.map_toArray, List.map_cons, List.map_nil, hs, hx, hr]
  exact hK _ _ (h v' w' h2 h3 h4)

/-- append(v, x) of one value, which the translation lays in a new block of its own first. -/
theorem wpList_app1 {P : Program} {w : World} {ops : Array Oper} {rest : List Oper} {o : Oper} {a : Act} {Q : Exit → Act → World → Prop} (hgd : o.guard = none) (s x : Operand) (t : TypeId)
    (ho : o.op = .call { callee := .builtin .append, args := #[s, x], argTypes := #[t, t] })
    {e : TypeId} {z : Value} (T : OneTy P t e z) {v : Value} {xs : List Value} (w0 : World) (hv : Own w0 e v xs) (hs : a.eval s = v)
    (u : Value) (e' : TypeId) (hw : w = w0.alloc (.cells #[u] e')) (hx : a.eval x = .slice (some ⟨w0.heap.size, 0, none⟩) 1 1) (h1 : u.oneCell' = true) (hb : xs.length + 1 ≤ 1099511627776)
    (h : ∀ v' w', Own w' e v' (xs ++ [u]) → Chg (fun k => v.ownBlock = some k) w0 w' → (∀ g, v'.ownBlock = some g → v.ownBlock = some g ∨ w0.heap.size ≤ g) → wpList P ops Q rest (a.put o.dst v') w') :
    wpList P ops Q (o :: rest) a w := by
  subst hw
  refine wpList_app hgd s x t ho T (hv.new (New.alloc _ _)) hs (some ⟨w0.heap.size, 0, none⟩) 1 1 [u] hx rfl (by simp) ?_ (by simpa using h1) hb (fun v' w' k1 k2 k3 => h v' w' k1 (Chg.trans (New.alloc _ _) k2 (fun _ _ x => x.elim) (fun _ _ x => x)) (fun g hg => ?_))
  · intro ad had j y hj
    obtain rfl := Option.some.inj had
    match j, hj with
    | 0, hj =>
      simp at hj; subst hj
      rw [Addr.add_lit, Nat.zero_add, cell_of_heap (heap_alloc_new w0 _)]; rfl
  · rcases k3 g hg with k | k
    · exact .inl k
    · simp at k; exact .inr (by omega)

theorem made1 (z : Value) (hz : z.cells = #[z]) (n : Nat) : (madeCells z.cells n).toList = List.replicate n z := by
  apply List.ext_getElem
  · simp [madeCells]
  · intro i h1 h2
    simp [madeCells, hz]
    rw [Nat.mod_one]
    simp

/-- make([]T, n) -/
theorem wpList_mk {P : Program} {w : World} {ops : Array Oper} {rest : List Oper} {o : Oper} {a : Act} {Q : Exit → Act → World → Prop} (hgd : o.guard = none) (l c : Operand) (t : TypeId) (ho : o.op = .makeSlice t l c)
    {e : TypeId} {z : Value} (T : OneTy P t e z) (kl kc : IntKind) (L C : Int) (n m : Nat) (hl : a.eval l = .int kl L) (hc : a.eval c = .int kc C) (hn : L = n) (hC : C = m) (hnm : n ≤ m) (hb : m ≤ 1099511627776)
    (h : ∀ v w', v = .slice (some ⟨w.heap.size, 0, none⟩) n m → Own w' e v (List.replicate n z) → New w w' → w.heap.size < w'.heap.size → wpList P ops Q rest (a.put o.dst v) w') :
    wpList P ops Q (o :: rest) a w := by
  subst hn hC
  obtain ⟨i, ht, hi, hz, hs, hby, hzc⟩ := T
  refine wpList_plain hgd fun K hK => ?_
  have hbig : i.bytes * m ≤ 281474976710656 := by have := Nat.mul_le_mul hby hb; omega
  have hr := run_make (P := P) w t e i z ht hi hz kl kc (n : Int) (m : Int) (by omega) (by omega) (Int.ofNat_le.2 hbig) (by omega)
  unfold Oper.wp execOp
  simp only [ho, Sem.run_bind, Sem.run_pure, Result.andThen_ok, hl, hc, hr]
  rw [Int.toNat_natCast, Int.toNat_natCast]
  refine hK _ _ (h _ _ rfl (.inr ⟨w.heap.size, m, madeCells z.cells (m * i.size), by rw [List.length_replicate], heap_alloc_new w _, by rw [List.length_replicate]; exact hnm, by simp only [maxLen]; omega, by simp only [madeCells, Array.size_map, Array.size_range, hs]; omega, ?_⟩) (New.alloc _ _) (Nat.lt_of_lt_of_eq (Nat.lt_succ_self _) (World.size_alloc _ _).symm))
  rw [hs, List.length_replicate, Nat.mul_one, made1 z hzc, List.take_replicate, Nat.min_eq_left hnm]
end Go.Proofs.YtcdbeepphdfipaaGreatDoor

namespace Go.Proofs.YtcdbeepphdfipaaGreatDoor
set_option linter.unusedVariables false

/-- All numbers of a row are rests, and there are n of them. -/
def hasB (p : Int) (r : List Int) : Bool := r.all (fun x => inB x 0 (p - 1))
def rowOk (p : Int) (n : Nat) (r : List Int) : Bool := decide (r.length = n) && hasB p r

/-- Rows are a table. -/
def vtB (p : Int) (rows : List (List Int)) : Bool := prB p && inB rows.length 1 6 && inB (gr rows 0).length 1 7 && rows.all (rowOk p (gr rows 0).length)

theorem hasB_iff {p : Int} {r : List Int} : hasB p r = true ↔ ∀ i, i < r.length → 0 ≤ gi r i ∧ gi r i ≤ p - 1 := by
  unfold hasB
  rw [List.all_eq_true]
  constructor
  · intro h i hi
    have := h _ (List.getElem_mem hi)
    rw [inB_iff] at this
    rw [gi_lt hi]; exact this
  · intro h x hx
    obtain ⟨i, hi, rfl⟩ := List.getElem_of_mem hx
    have := h i hi
    rw [gi_lt hi] at this
    rw [inB_iff]; exact this

theorem rowOk_iff {p : Int} {n : Nat} {r : List Int} : rowOk p n r = true ↔ r.length = n ∧ ∀ i, i < r.length → 0 ≤ gi r i ∧ gi r i ≤ p - 1 := by
  unfold rowOk
  rw [Bool.and_eq_true, hasB_iff]; simp

theorem all_iff {rows : List (List Int)} {f : List Int → Bool} : rows.all f = true ↔ ∀ i, i < rows.length → f (gr rows i) = true := by
  rw [List.all_eq_true]
  constructor
  · intro h i hi; rw [gr_lt hi]; exact h _ (List.getElem_mem hi)
  · intro h x hx
    obtain ⟨i, hi, rfl⟩ := List.getElem_of_mem hx
    have := h i hi
    rw [gr_lt hi] at this; exact this

theorem all_false {rows : List (List Int)} {f : List Int → Bool} {i : Nat} (hi : i < rows.length) (h : f (gr rows i) = false) : rows.all f = false := by
  cases e : rows.all f with
  | false => rfl
  | true => rw [all_iff] at e; rw [e i hi] at h; cases h

theorem rowOk_len {p : Int} {n : Nat} {r : List Int} (h : r.length ≠ n) : rowOk p n r = false := by
  simp [rowOk, h]

theorem hasB_no {p : Int} {r : List Int} {i : Nat} (hi : i < r.length) (h : inB (gi r i) 0 (p - 1) = false) : hasB p r = false := by
  cases e : hasB p r with
  | false => rfl
  | true =>
    rw [hasB_iff] at e
    have := e i hi
    rw [inB_false] at h
    exact absurd this h

theorem rowOk_no {p : Int} {n : Nat} {r : List Int} {i : Nat} (hi : i < r.length) (h : inB (gi r i) 0 (p - 1) = false) : rowOk p n r = false := by
  simp [rowOk, hasB_no hi h]

theorem vtB_iff {p : Int} {rows : List (List Int)} : vtB p rows = true ↔ (p = 2 ∨ p = 3 ∨ p = 5 ∨ p = 7) ∧ (1 ≤ rows.length ∧ rows.length ≤ 6) ∧ (1 ≤ (gr rows 0).length ∧ (gr rows 0).length ≤ 7) ∧
    ∀ i, i < rows.length → (gr rows i).length = (gr rows 0).length ∧ ∀ k, k < (gr rows i).length → 0 ≤ gi (gr rows i) k ∧ gi (gr rows i) k ≤ p - 1 := by
  unfold vtB
  simp only [Bool.and_eq_true, prB_iff, inB_iff, all_iff, rowOk_iff]
  constructor
  · rintro ⟨⟨⟨h1, h2⟩, h3⟩, h4⟩; exact ⟨h1, by omega, by omega, h4⟩
  · rintro ⟨h1, h2, h3, h4⟩; exact ⟨⟨⟨h1, by omega⟩, by omega⟩, h4⟩

theorem vtB_p {p : Int} {rows : List (List Int)} (h : prB p = false) : vtB p rows = false := by simp [vtB, h]
theorem vtB_n {p : Int} {rows : List (List Int)} (h : inB rows.length 1 6 = false) : vtB p rows = false := by simp [vtB, h]
theorem vtB_m {p : Int} {rows : List (List Int)} (h : inB (gr rows 0).length 1 7 = false) : vtB p rows = false := by simp [vtB, h]
theorem vtB_r {p : Int} {rows : List (List Int)} {i : Nat} (hi : i < rows.length) (h : rowOk p (gr rows 0).length (gr rows i) = false) : vtB p rows = false := by simp [vtB, all_false hi h]
theorem vtB_mk {p : Int} {rows : List (List Int)} (h1 : prB p = true) (h2 : inB rows.length 1 6 = true) (h3 : inB (gr rows 0).length 1 7 = true) (h4 : ∀ i, i < rows.length → rowOk p (gr rows 0).length (gr rows i) = true) : vtB p rows = true := by
  simp [vtB, h1, h2, h3, all_iff.2 h4]
theorem rowOk_mk {p : Int} {n : Nat} {r : List Int} (h : r.length = n) (h2 : ∀ i, i < r.length → inB (gi r i) 0 (p - 1) = true) : rowOk p n r = true :=
  rowOk_iff.2 ⟨h, fun i hi => inB_iff.1 (h2 i hi)⟩
end Go.Proofs.YtcdbeepphdfipaaGreatDoor

namespace Go.Proofs.YtcdbeepphdfipaaGreatDoor
set_option linter.unusedVariables false

/-- The index of the first number for which g holds, or -1. -/
def fiZ (g : Int → Bool) : List Int → Int
  | [] => -1
  | x :: xs => if g x then 0 else (let r := fiZ g xs; if r = -1 then -1 else r + 1)

theorem fiZ_ge (g : Int → Bool) (xs : List Int) : -1 ≤ fiZ g xs ∧ fiZ g xs < xs.length := by
  induction xs with
  | nil => simp [fiZ]
  | cons x xs ih => simp only [fiZ, List.length_cons]; split <;> (try split) <;> omega

theorem fiZ_found {g : Int → Bool} {xs : List Int} {k : Nat} (hk : k < xs.length) (h : g (gi xs k) = true) (hb : ∀ j, j < k → g (gi xs j) = false) : fiZ g xs = k := by
  induction xs generalizing k with
  | nil => simp at hk
  | cons x xs ih =>
    cases k with
    | zero =>
      have : gi (x :: xs) 0 = x := by simp [gi]
      rw [this] at h
      simp [fiZ, h]
    | succ k =>
      have h0 := hb 0 (by omega)
      have e0 : gi (x :: xs) 0 = x := by simp [gi]
      have es : ∀ j, gi (x :: xs) (j + 1) = gi xs j := fun j => by simp [gi]
      rw [e0] at h0
      rw [es] at h
      have := ih (k := k) (by simpa using hk) h (fun j hj => by have := hb (j + 1) (by omega); rwa [es] at this)
      simp only [fiZ, h0, this]
      simp

theorem fiZ_none {g : Int → Bool} {xs : List Int} (hb : ∀ j, j < xs.length → g (gi xs j) = false) : fiZ g xs = -1 := by
  induction xs with
  | nil => rfl
  | cons x xs ih =>
    have h0 := hb 0 (by simp)
    have e0 : gi (x :: xs) 0 = x := by simp [gi]
    have es : ∀ j, gi (x :: xs) (j + 1) = gi xs j := fun j => by simp [gi]
    rw [e0] at h0
    have := ih (fun j hj => by have := hb (j + 1) (by simpa using hj); rwa [es] at this)
    simp [fiZ, h0, this]

theorem fiZ_at {g : Int → Bool} {xs : List Int} {k : Nat} (h : fiZ g xs = k) : k < xs.length ∧ g (gi xs k) = true ∧ ∀ j, j < k → g (gi xs j) = false := by
  induction xs generalizing k with
  | nil => simp only [fiZ] at h; omega
  | cons x xs ih =>
    have e0 : gi (x :: xs) 0 = x := by simp [gi]
    have es : ∀ j, gi (x :: xs) (j + 1) = gi xs j := fun j => by simp [gi]
    simp only [fiZ] at h
    split at h
    · rename_i hx
      obtain rfl : k = 0 := by omega
      exact ⟨by simp, by rw [e0]; exact hx, fun j hj => absurd hj (Nat.not_lt_zero _)⟩
    · rename_i hx
      split at h
      · omega
      · have hr := fiZ_ge g xs
        obtain ⟨k', rfl⟩ : ∃ k', k = k' + 1 := ⟨k - 1, by omega⟩
        have := ih (k := k') (by omega)
        refine ⟨by simp; omega, by rw [es]; exact this.2.1, fun j hj => ?_⟩
        cases j with
        | zero => rw [e0]; simpa using hx
        | succ j => rw [es]; exact this.2.2 j (by omega)

theorem fiZ_all {g : Int → Bool} {xs : List Int} : fiZ g xs = -1 ↔ ∀ j, j < xs.length → g (gi xs j) = false := by
  constructor
  · intro h j hj
    apply Classical.byContradiction
    intro hc
    have hex : ∃ k, k < xs.length ∧ g (gi xs k) = true := ⟨j, hj, by simpa using hc⟩
    have hmin : ∃ k, (k < xs.length ∧ g (gi xs k) = true) ∧ ∀ i, i < k → ¬ (i < xs.length ∧ g (gi xs i) = true) := by
      have key : ∀ n, ∀ k, k ≤ n → (k < xs.length ∧ g (gi xs k) = true) → ∃ k, (k < xs.length ∧ g (gi xs k) = true) ∧ ∀ i, i < k → ¬ (i < xs.length ∧ g (gi xs i) = true) := by
        intro n
        induction n with
        | zero => intro k hk hh; exact ⟨k, hh, fun i hi => by omega⟩
        | succ n ih =>
          intro k hk hh
          by_cases hb : ∃ i, i < k ∧ (i < xs.length ∧ g (gi xs i) = true)
          · obtain ⟨i, hi, hi2⟩ := hb
            exact ih i (by omega) hi2
          · exact ⟨k, hh, fun i hi h2 => hb ⟨i, hi, h2⟩⟩
      exact key j j (Nat.le_refl _) ⟨hj, by simpa using hc⟩
    obtain ⟨k, ⟨hk, hg⟩, hb⟩ := hmin
    have := fiZ_found hk hg (fun i hi => by have := hb i hi; cases e : g (gi xs i) with
      | false => rfl
      | true => exact absurd ⟨by omega, e⟩ this)
    omega
  · exact fiZ_none

/-- A number is not 0. -/
def nzB (n : Int) : Bool := decide (n ≠ 0)
/-- The index of the first number that is not 0, or -1. -/
def leadZ (xs : List Int) : Int := fiZ nzB xs

/-- The first k numbers have had their multiple added. -/
def addTo (p : Int) (xs : List Int) (b : Int) (ys : List Int) (k : Nat) : List Int := xs.mapIdx (fun i a => if i < k then (a + b * gi ys i) % p else a)
/-- A list with a multiple of another one added. -/
def addZ (p : Int) (xs : List Int) (b : Int) (ys : List Int) : List Int := addTo p xs b ys ys.length

theorem addTo_length (p : Int) (xs : List Int) (b : Int) (ys : List Int) (k : Nat) : (addTo p xs b ys k).length = xs.length := by simp [addTo]
theorem addZ_length (p : Int) (xs : List Int) (b : Int) (ys : List Int) : (addZ p xs b ys).length = xs.length := by simp [addZ, addTo]

theorem addTo_get (p : Int) (xs : List Int) (b : Int) (ys : List Int) (k : Nat) {i : Nat} (hi : i < xs.length) : gi (addTo p xs b ys k) i = if i < k then (gi xs i + b * gi ys i) % p else gi xs i := by
  rw [gi_lt (by rw [addTo_length]; exact hi), gi_lt hi]
  simp [addTo]

theorem addTo_zero (p : Int) (xs : List Int) (b : Int) (ys : List Int) : addTo p xs b ys 0 = xs := by
  apply List.ext_getElem
  · simp [addTo]
  · intro i h1 h2; simp [addTo]

theorem ext_gi {xs ys : List Int} (hl : xs.length = ys.length) (h : ∀ i, i < xs.length → gi xs i = gi ys i) : xs = ys := by
  apply List.ext_getElem hl
  intro i h1 h2
  have := h i h1
  rwa [gi_lt h1, gi_lt h2] at this

theorem gi_set {xs : List Int} {k : Nat} {y : Int} {i : Nat} (hi : i < xs.length) : gi (xs.set k y) i = if k = i then y else gi xs i := by
  rw [gi_lt (by simpa using hi), List.getElem_set, gi_lt hi]

theorem addTo_succ (p : Int) (xs : List Int) (b : Int) (ys : List Int) (k : Nat) (hk : k < xs.length) : (addTo p xs b ys k).set k ((gi xs k + b * gi ys k) % p) = addTo p xs b ys (k + 1) := by
  apply ext_gi (by simp [addTo])
  intro i hi
  rw [List.length_set, addTo_length] at hi
  rw [gi_set (by rw [addTo_length]; exact hi), addTo_get _ _ _ _ _ hi, addTo_get _ _ _ _ _ hi]
  by_cases e : k = i
  · subst e; rw [if_pos rfl, if_pos (by omega)]
  · rw [if_neg e]
    by_cases h : i < k
    · rw [if_pos h, if_pos (by omega)]
    · rw [if_neg h, if_neg (by omega)]

theorem take_succ_gr {rows : List (List Int)} {k : Nat} (h : k < rows.length) : rows.take (k + 1) = rows.take k ++ [gr rows k] := by
  rw [gr_lt h, List.take_succ_eq_append_getElem h]

end Go.Proofs.YtcdbeepphdfipaaGreatDoor

namespace Go.Proofs.YtcdbeepphdfipaaGreatDoor
open Go.RowKit
set_option linter.unusedVariables false

/-- The cells of pairs. -/
def prs (xs : List (Value × Value)) : List Value := xs.flatMap (fun x => [x.1, x.2])
theorem prs_nil : prs [] = [] := rfl
theorem prs_snoc (xs : List (Value × Value)) (x : Value × Value) : prs (xs ++ [x]) = prs xs ++ [x.1, x.2] := by simp [prs, List.flatMap_append]
theorem prs_length (xs : List (Value × Value)) : (prs xs).length = xs.length * 2 := by
  induction xs with
  | nil => rfl
  | cons x xs ih => rw [prs, List.flatMap_cons, List.length_append, ← prs, ih]; simp; omega
def gp (xs : List (Value × Value)) (j : Nat) : Value × Value := xs.getD j (undef, undef)
theorem gp_lt {xs : List (Value × Value)} {j : Nat} (h : j < xs.length) : gp xs j = xs[j] := by simp [gp, h]
theorem gp_snoc_lt {xs : List (Value × Value)} {x : Value × Value} {j : Nat} (h : j < xs.length) : gp (xs ++ [x]) j = gp xs j := by
  rw [gp_lt (by simp; omega), gp_lt h, List.getElem_append_left h]
theorem gp_snoc_eq {xs : List (Value × Value)} {x : Value × Value} {j : Nat} (h : j = xs.length) : gp (xs ++ [x]) j = x := by
  subst h; rw [gp_lt (by simp)]; simp
theorem prs_get (xs : List (Value × Value)) {j : Nat} (h : j < xs.length) : (prs xs)[j * 2]? = some (gp xs j).1 ∧ (prs xs)[j * 2 + 1]? = some (gp xs j).2 := by
  induction xs generalizing j with
  | nil => simp at h
  | cons x xs ih =>
    have e : prs (x :: xs) = x.1 :: x.2 :: prs xs := by simp [prs]
    rw [e]
    cases j with
    | zero => exact ⟨rfl, rfl⟩
    | succ j =>
      have h1 := ih (j := j) (by simpa using h)
      have e2 : gp (x :: xs) (j + 1) = gp xs j := by simp [gp]
      rw [e2, show (j + 1) * 2 = j * 2 + 1 + 1 by omega]
      exact h1

/-- v is a slice of pairs, at the head of a block of its own that may be written. -/
def OwnP (w : World) (e : TypeId) (v : Value) (xs : List (Value × Value)) : Prop :=
  (v = .slice none 0 0 ∧ xs = []) ∨
  ∃ g cap cur, v = .slice (some ⟨g, 0, none⟩) xs.length cap ∧ w.heap[g]? = some (.cells cur e (0, 0)) ∧ xs.length ≤ cap ∧ cap ≤ maxLen ∧ cap * 2 ≤ cur.size ∧ cur.toList.take (xs.length * 2) = prs xs

theorem OwnP.chg {S : Nat → Prop} {w w' : World} {e : TypeId} {v : Value} {xs : List (Value × Value)} (h : OwnP w e v xs) (hc : Chg S w w') (hS : ∀ g, v.ownBlock = some g → ¬ S g) : OwnP w' e v xs := by
  rcases h with h | ⟨g, cap, cur, rfl, hg, r⟩
  · exact .inl h
  · exact .inr ⟨g, cap, cur, rfl, hc.heapAt hg (hS g rfl), r⟩
theorem OwnP.new {w w' : World} {e : TypeId} {v : Value} {xs : List (Value × Value)} (h : OwnP w e v xs) (hc : New w w') : OwnP w' e v xs := h.chg hc (fun _ _ x => x)
theorem OwnP.lt {w : World} {e : TypeId} {v : Value} {xs : List (Value × Value)} (h : OwnP w e v xs) {g : Nat} (hg : v.ownBlock = some g) : g < w.heap.size := by
  rcases h with ⟨rfl, _⟩ | ⟨g', cap, cur, rfl, hh, _⟩
  · simp [Value.ownBlock] at hg
  · simp [Value.ownBlock] at hg
    subst hg
    exact (Array.getElem?_eq_some_iff.1 hh).1
theorem OwnP.opened {w : World} {e : TypeId} {v : Value} {xs : List (Value × Value)} (h : OwnP w e v xs) (hm : Mid xs.length) : ∃ ao n cap, v = .slice ao n cap ∧ Hid (n = xs.length) ∧ n ≤ 1099511627776 ∧ Hid (n ≤ cap ∧ cap ≤ maxLen) := by
  rcases h with ⟨rfl, rfl⟩ | ⟨g, cap, cur, rfl, _, h1, h2, _⟩
  · exact ⟨none, 0, 0, rfl, rfl, by simp, by simp, by simp [maxLen]⟩
  · exact ⟨_, _, cap, rfl, rfl, hm, h1, h2⟩
theorem OwnP.head {w : World} {e : TypeId} {ao : Option Addr} {n cap : Nat} {xs : List (Value × Value)} (h : OwnP w e (.slice ao n cap) xs) {i : Nat} (hi : i < xs.length) : ∃ g, ao = some ⟨g, 0, none⟩ := by
  rcases h with ⟨_, h⟩ | ⟨g, cap, cur, hv, _⟩
  · subst h; simp at hi
  · simp at hv; exact ⟨g, hv.1⟩
theorem OwnP.cell {w : World} {e : TypeId} {xs : List (Value × Value)} {g n cap : Nat} (h : OwnP w e (.slice (some ⟨g, 0, none⟩) n cap) xs) {i : Nat} (hi : i < xs.length) :
    w.cell? ⟨g, i * 2, none⟩ = some (gp xs i).1 ∧ w.cell? ⟨g, i * 2 + 1, none⟩ = some (gp xs i).2 := by
  rcases h with ⟨h, _⟩ | ⟨g', cap', cur, hv, hh, _, _, _, ht⟩
  · simp at h
  · simp at hv
    obtain ⟨rfl, _, rfl⟩ := hv
    have hg := prs_get xs hi
    have key : ∀ j, j < xs.length * 2 → cur[j]? = (prs xs)[j]? := fun j hj => by
      rw [← ht, List.getElem?_take, if_pos hj, Array.getElem?_toList]
    exact ⟨by rw [cell_of_heap hh, key _ (by omega)]; exact hg.1, by rw [cell_of_heap hh, key _ (by omega)]; exact hg.2⟩
theorem OwnP.empty (w : World) (e : TypeId) : OwnP (w.alloc (.cells #[] e)) e (.slice (some ⟨w.heap.size, 0, none⟩) 0 0) [] :=
  .inr ⟨w.heap.size, 0, #[], rfl, heap_alloc_new w _, by simp, by simp [maxLen], by simp, by simp [prs]⟩

/-- Slices of type t have elements of type e, two cells each, of at most 48 bytes, with the zero value z. -/
def TwoTy (P : Program) (t e : TypeId) (z : Value) : Prop :=
  ∃ i, P.underlying t = some (.slice e) ∧ P.info? e = some i ∧ i.zero = some z ∧ i.size = 2 ∧ i.bytes ≤ 48 ∧ z.cells.size = 2
theorem TwoTy.mk {P : Program} {t e : TypeId} {z : Value} {n b : Nat} (h : P.underlying t = some (.slice e)) (hi : (P.info? e).map (fun i => (i.zero, i.size, i.bytes)) = some (some z, n, b)) (hn : n = 2) (hb : b ≤ 48) (hz : z.cells.size = 2) : TwoTy P t e z := by
  obtain ⟨i, h1, h2, h3, h4⟩ := info_parts hi
  exact ⟨i, h, h1, h2, by omega, by omega, hz⟩

/-- append(v, x) of one pair, that lies in cells of its own. -/
theorem run_app2 {P : Program} (w : World) {t ty e : TypeId} {z : Value} (T : TwoTy P t e z) {v : Value} {xs : List (Value × Value)} (hv : OwnP w e v xs)
    (so : Addr) (c : Nat) (x : Value × Value) (hn0 : w.cell? (so.add 0) = some x.1) (hn1 : w.cell? (so.add 1) = some x.2) (h1 : x.1.oneCell' = true ∧ x.2.oneCell' = true) (hb : xs.length + 1 ≤ 1099511627776) :
    ∃ v' w', (Builtin.append_ #[t, t] ty #[v, .slice (some so) 1 c]).run P w = .ok v' w' ∧ OwnP w' e v' (xs ++ [x]) ∧ Chg (fun k => v.ownBlock = some k) w w' ∧
      (∀ g, v'.ownBlock = some g → v.ownBlock = some g ∨ w.heap.size ≤ g) := by
  obtain ⟨i, ht, hi, hz, hs, hby, hzc⟩ := T
  have hbig : (xs.length + 1) * i.bytes ≤ 140737488355328 := by
    have := Nat.mul_le_mul hb hby; omega
  have hnews : ∀ j u, ([x.1, x.2] : List Value)[j]? = some u → w.cell? (so.add j) = some u := fun j u hj => by
    match j, hj with
    | 0, hj => simp at hj; subst hj; exact hn0
    | 1, hj => simp at hj; subst hj; exact hn1
  have hone : ∀ u ∈ ([x.1, x.2] : List Value), u.oneCell' = true := by simp; exact h1
  have hpl := prs_length xs
  have hzs : ∀ n, (Builtin.zeroCells z.cells n).size = n * 2 := fun n => by rw [size_zeroCells, hzc]
  rcases hv with ⟨rfl, rfl⟩ | ⟨g, cap, cur, rfl, hg, hnc, hcm, hcs, htake⟩
  · have hr := run_append_nil (P := P) w t ty e i z ht hi hz so 1 c [x.1, x.2] (by rw [hs]; rfl) hnews (by omega) (by omega) (by have := hbig; simp at this; omega)
    have hge := grownCap_ge w 1 0 e
    have hcm : grownCap w 1 0 e ≤ maxLen := grownCap_le_maxLen w 1 0 e (by simp only [maxLen]; omega)
    refine ⟨_, _, hr, .inr ⟨w.heap.size, _, _, by simp, heap_alloc_new w.drew _, by simp; omega, hcm, ?_, ?_⟩, ⟨rfl, rfl, rfl, by simp, fun k hk _ => Below.heap_alloc w.drew _ k hk⟩, fun g hg => ?_⟩
    · rw [Array.size_append, hzs]; simp; omega
    · simp [prs]
    · simp [Value.ownBlock] at hg; exact .inr (by omega)
  · by_cases hroom : xs.length + 1 ≤ cap
    · have hr := run_append_room (P := P) w t ty e i ht hi g xs.length cap cur hg so 1 c [x.1, x.2] (by rw [hs]; rfl) hnews hone hroom (by rw [hs]; simp; omega)
      refine ⟨_, _, hr, .inr ⟨g, cap, _, by simp, setRow_heap w g cur _ e _ hg, by simp; omega, hcm, ?_, ?_⟩, ⟨rfl, rfl, rfl, by simp [World.setRow], fun k _ hk => setRow_other w g k _ (fun e => hk (by simp [Value.ownBlock, e]))⟩, fun g' hg' => .inl (by simpa [Value.ownBlock] using hg')⟩
      · simp only [List.size_toArray, List.length_append, List.length_take, List.length_drop, Array.length_toList, hs]
        simp
        omega
      · rw [hs, htake, prs_snoc]
        have : (xs ++ [x]).length * 2 = (prs xs ++ [x.1, x.2]).length := by rw [List.length_append, List.length_append, hpl]; simp; omega
        rw [this]
        exact List.take_left
    · have holds : ∀ j u, (prs xs)[j]? = some u → w.cell? ((⟨g, 0, none⟩ : Addr).add j) = some u := by
        intro j u hu
        have hj : j < (prs xs).length := (List.getElem?_eq_some_iff.1 hu).1
        rw [Addr.add_lit, Nat.zero_add, cell_of_heap hg]
        rw [← htake, List.getElem?_take, if_pos (by omega), Array.getElem?_toList] at hu
        exact hu
      have hr := run_append_grow (P := P) w t ty e i z ht hi hz ⟨g, 0, none⟩ xs.length cap (prs xs) (by rw [hs, hpl]) holds so 1 c [x.1, x.2] (by rw [hs]; rfl) hnews (by omega) (by omega) (growslice_fits (by omega) hbig)
      have hge := grownCap_ge w (xs.length + 1) cap e
      have hcm' : grownCap w (xs.length + 1) cap e ≤ maxLen := grownCap_le_maxLen w (xs.length + 1) cap e (by simp only [maxLen]; omega)
      refine ⟨_, _, hr, .inr ⟨w.heap.size, _, _, by simp, heap_alloc_new w.drew _, by simp; omega, hcm', ?_, ?_⟩, ⟨rfl, rfl, rfl, by simp, fun k hk _ => Below.heap_alloc w.drew _ k hk⟩, fun g hg => ?_⟩
      · rw [Array.size_append, hzs]; simp [hpl]; omega
      · rw [Array.toList_append, prs_snoc]
        have : (xs ++ [x]).length * 2 = (prs xs ++ [x.1, x.2]).length := by rw [List.length_append, List.length_append, hpl]; simp; omega
        rw [this]
        rw [Array.toList_append]
        exact List.take_left
      · simp [Value.ownBlock] at hg; exact .inr (by omega)

/-- append(v, x), which the translation lays in a new block of its own first. -/
theorem wpList_app2 {P : Program} {w : World} {ops : Array Oper} {rest : List Oper} {o : Oper} {a : Act} {Q : Exit → Act → World → Prop} (hgd : o.guard = none) (s x : Operand) (t : TypeId)
    (ho : o.op = .call { callee := .builtin .append, args := #[s, x], argTypes := #[t, t] })
    {e : TypeId} {z : Value} (T : TwoTy P t e z) {v : Value} {xs : List (Value × Value)} (w0 : World) (hv : OwnP w0 e v xs) (hs : a.eval s = v)
    (u1 u2 : Value) (e' : TypeId) (hw : w = w0.alloc (.cells #[u1, u2] e')) (hx : a.eval x = .slice (some ⟨w0.heap.size, 0, none⟩) 1 1) (h1 : u1.oneCell' = true ∧ u2.oneCell' = true) (hb : xs.length + 1 ≤ 1099511627776)
    (h : ∀ v' w', OwnP w' e v' (xs ++ [(u1, u2)]) → Chg (fun k => v.ownBlock = some k) w0 w' → (∀ g, v'.ownBlock = some g → v.ownBlock = some g ∨ w0.heap.size ≤ g) → wpList P ops Q rest (a.put o.dst v') w') :
    wpList P ops Q (o :: rest) a w := by
  subst hw
  refine wpList_plain hgd fun K hK => ?_
  obtain ⟨v', w', hr, h2, h3, h4⟩ := run_app2 (P := P) (w0.alloc (.cells #[u1, u2] e')) (ty := o.type) T (hv.new (New.alloc _ _)) ⟨w0.heap.size, 0, none⟩ 1 (u1, u2)
    (by rw [Addr.add_lit, Nat.zero_add, cell_of_heap (heap_alloc_new w0 _)]; rfl) (by rw [Addr.add_lit, Nat.zero_add, cell_of_heap (heap_alloc_new w0 _)]; rfl) h1 hb
  unfold Oper.wp execOp
  simp only [ho, resolve, invoke, builtin, Sem.run_bind, Sem.run_pure, Result.andThen_ok, List.map_toArray, List.map_cons, List.map_nil, hs, hx, hr]
  refine hK _ _ (h v' w' h2 (Chg.trans (New.alloc _ _) h3 (fun _ _ x => x.elim) (fun _ _ x => x)) (fun g hg => ?_))
  rcases h4 g hg with k | k
  · exact .inl k
  · simp at k; exact .inr (by omega)
end Go.Proofs.YtcdbeepphdfipaaGreatDoor

namespace Go.Proofs.YtcdbeepphdfipaaGreatDoor
open Go.RowKit
open Go.Maps (Keyed)
set_option linter.unusedVariables false

/-- A slice reads as itself. -/
def slE (v : Value) : Option (DataW Value × List MemPlace) :=
  match v with
  | .slice a n c => some (.held (.slice a n c), [])
  | _ => none
theorem slE_mk (a : Option Addr) (n c : Nat) : slE (.slice a n c) = some (.held (.slice a n c), []) := rfl
theorem slE_inv {v : Value} {y : DataW Value × List MemPlace} (h : slE v = some y) : ∃ a n c, v = .slice a n c ∧ y = (.held (.slice a n c), []) := by
  cases v <;> simp [slE] at h
  exact ⟨_, _, _, rfl, h.symm⟩

/-- Block b is a map of at most n entries with the keys ks and their values vs. -/
def MapIs (P : Program) (k : TypeId) (w : World) (b n : Nat) (ks : List Int) (vs : List Value) : Prop :=
  ∃ D : DataW Value, w.ownsMap P k slE b n D ∧ (∀ x, Maps.has D (.int .i64 x) = decide (x ∈ ks)) ∧ ∀ i, i < ks.length → ∀ zd, D.atKey (.int .i64 (gi ks i)) zd = .held (gv vs i)

/-- .. over which a loop is under way: rem tells which keys are still to come. -/
def RangeIs (P : Program) (k : TypeId) (w : World) (b r n : Nat) (ks : List Int) (vs : List Value) (rem : Int → Bool) (cnt : Nat) : Prop :=
  ∃ (D : DataW Value) (left : Lit → Bool), w.ranges P k slE b r n D left cnt ∧ (∀ x, left (.int .i64 x) = rem x) ∧ (∀ x, rem x = true → x ∈ ks) ∧ (∀ x, Maps.has D (.int .i64 x) = decide (x ∈ ks)) ∧ ∀ i, i < ks.length → ∀ zd, D.atKey (.int .i64 (gi ks i)) zd = .held (gv vs i)

theorem MapIs.made (P : Program) (k : TypeId) (w : World) : MapIs P k (w.alloc (.map #[] 0)) w.heap.size 0 [] [] :=
  ⟨_, World.ownsMap_made w P k slE, fun x => rfl, fun i hi => by simp at hi⟩

theorem MapIs.chg {P : Program} {k : TypeId} {w w' : World} {b n : Nat} {ks : List Int} {vs : List Value} {S : Nat → Prop} (h : MapIs P k w b n ks vs) (hc : Chg S w w') (hb : ¬ S b) : MapIs P k w' b n ks vs := by
  obtain ⟨D, ⟨es, clock, hh, r⟩, h2⟩ := h
  exact ⟨D, ⟨es, clock, hc.heapAt hh hb, r⟩, h2⟩
theorem MapIs.new {P : Program} {k : TypeId} {w w' : World} {b n : Nat} {ks : List Int} {vs : List Value} (h : MapIs P k w b n ks vs) (hc : New w w') : MapIs P k w' b n ks vs := h.chg hc (fun x => x)
theorem MapIs.lt {P : Program} {k : TypeId} {w : World} {b n : Nat} {ks : List Int} {vs : List Value} (h : MapIs P k w b n ks vs) : b < w.heap.size := by
  obtain ⟨D, h1, _⟩ := h
  exact h1.lt
theorem RangeIs.chg {P : Program} {k : TypeId} {w w' : World} {b r n : Nat} {ks : List Int} {vs : List Value} {rem : Int → Bool} {cnt : Nat} {S : Nat → Prop} (h : RangeIs P k w b r n ks vs rem cnt) (hc : Chg S w w') (hb : ¬ S b) (hr : ¬ S r) : RangeIs P k w' b r n ks vs rem cnt := by
  obtain ⟨D, left, ⟨es, clock, since, seen, c0, h1, h2, h3, h4, h5, h6⟩, h7⟩ := h
  exact ⟨D, left, ⟨es, clock, since, seen, c0, hc.heapAt h1 hb, h2, h3, h4, hc.heapAt h5 hr, h6⟩, h7⟩
theorem RangeIs.owns {P : Program} {k : TypeId} {w : World} {b r n : Nat} {ks : List Int} {vs : List Value} {rem : Int → Bool} {cnt : Nat} (h : RangeIs P k w b r n ks vs rem cnt) : MapIs P k w b n ks vs := by
  obtain ⟨D, left, h1, _, _, h4, h5⟩ := h
  exact ⟨D, h1.owns, h4, h5⟩
theorem RangeIs.left {P : Program} {k : TypeId} {w : World} {b r n : Nat} {ks : List Int} {vs : List Value} {rem : Int → Bool} {cnt : Nat} (h : RangeIs P k w b r n ks vs rem cnt) : w.rangeLeft b r = cnt := by
  obtain ⟨D, left, h1, _⟩ := h
  exact h1.left_eq

/-- rem without x. -/
def remWo (rem : Int → Bool) (x z : Int) : Bool := rem z && decide (z ≠ x)
theorem remWo_same (rem : Int → Bool) (x : Int) : remWo rem x x = false := by simp [remWo]
theorem remWo_other (rem : Int → Bool) {x z : Int} (h : z ≠ x) : remWo rem x z = rem z := by simp [remWo, h]

theorem lit_ne {x y : Int} (h : x ≠ y) : (Lit.int .i64 x) ≠ .int .i64 y := fun e => h (by injection e)

section
variable {P : Program} {w : World} {ops : Array Oper} {rest : List Oper} {o : Oper} {a : Act} {Q : Exit → Act → World → Prop}

/-- m[z] = v, at a new key. -/
theorem wpList_mapPut (hgd : o.guard = none) (m x v : Operand) (t : TypeId) (ho : o.op = Op.mapUpdate t m x v) (k e : TypeId) (hk : P.underlying k = some (.int .i64)) (ht : P.underlying t = some (.map k e))
    (b n : Nat) (ks : List Int) (vs : List Value) (hm : a.eval m = .map (some b)) (h : MapIs P k w b n ks vs) (hn : n < maxLen) (z : Int) (sa : Option Addr) (sn sc : Nat) (hx : a.eval x = .int .i64 z) (hv : a.eval v = .slice sa sn sc)
    (hwf : (Lit.int .i64 z).wf = true) (hz : z ∉ ks) (hl : ks.length = vs.length)
    (hK : ∀ w', MapIs P k w' b (n + 1) (ks ++ [z]) (vs ++ [.slice sa sn sc]) → Chg (· = b) w w' → wpList P ops Q rest (a.put o.dst undef) w') : wpList P ops Q (o :: rest) a w := by
  obtain ⟨D, h1, h2, h3⟩ := h
  have hkey : keyOf P k (.int .i64 z) = some (.int .i64 z) := Maps.keyOf_int_mk hk hwf
  have hik := (Maps.int_keyed hk).key hkey
  refine wpList_mapUpdate_own w hgd m x v t ho k e (Maps.int_keyed hk) ht slE b n D hm h1 hn _ _ _ hx hv hkey (.held (.slice sa sn sc)) [] rfl (fun w' hw hg => hK w' ⟨_, hw, fun y => ?_, fun i hi zd => ?_⟩ ((Chg.of_grown hg).mono (fun i _ hi => by injection hi with hi; exact hi.symm)))
  · by_cases e : y = z
    · subst e
      rw [Maps.has_put_same h1.isMap hik]
      simp
    · rw [Maps.has_put_other (lit_ne e), h2 y]
      simp [e]
  · rw [List.length_append, List.length_singleton] at hi
    by_cases hlt : i < ks.length
    · have e1 : gi (ks ++ [z]) i = gi ks i := by rw [gi_lt (by simp; omega), gi_lt hlt, List.getElem_append_left hlt]
      have e2 : gv (vs ++ [Value.slice sa sn sc]) i = gv vs i := by rw [gv_lt (by simp; omega), gv_lt (by omega), List.getElem_append_left (by omega)]
      rw [e1, e2, Maps.atKey_put_other (lit_ne (fun e => hz (by rw [← e, gi_lt hlt]; exact List.getElem_mem hlt)))]
      exact h3 i hlt zd
    · obtain rfl : i = ks.length := by omega
      have e1 : gi (ks ++ [z]) ks.length = z := by rw [gi_lt (by simp)]; simp
      have e2 : gv (vs ++ [Value.slice sa sn sc]) ks.length = Value.slice sa sn sc := by rw [hl, gv_lt (by simp)]; simp
      rw [e1, e2, Maps.atKey_put_same h1.isMap hik]

/-- _, ok := m[z]. -/
theorem wpList_mapHas (hgd : o.guard = none) (m x : Operand) (t : TypeId) (ho : o.op = Op.lookup t m x true) (k e : TypeId) (hk : P.underlying k = some (.int .i64)) (ht : P.underlying t = some (.map k e)) (hz0 : (zeroValue e).run P w = .ok (.slice none 0 0) w)
    (b n : Nat) (ks : List Int) (vs : List Value) (hm : a.eval m = .map (some b)) (h : MapIs P k w b n ks vs) (z : Int) (hx : a.eval x = .int .i64 z) (hwf : (Lit.int .i64 z).wf = true)
    (hK : ∀ v, wpList P ops Q rest (a.put o.dst (.tuple #[v, .bool (decide (z ∈ ks))])) w) : wpList P ops Q (o :: rest) a w := by
  obtain ⟨D, h1, h2, h3⟩ := h
  have hkey : keyOf P k (.int .i64 z) = some (.int .i64 z) := Maps.keyOf_int_mk hk hwf
  refine wpList_lookup_own_ok w hgd m x t ho k e (Maps.int_keyed hk) ht slE hz0 (.held (.slice none 0 0)) [] rfl b n D hm h1 _ _ hx hkey (fun v ps hv => ?_)
  rw [h2 z]
  exact hK v

/-- range m, as it runs. -/
theorem MapIs.range {k e t : TypeId} {b n : Nat} {ks : List Int} {vs : List Value} (h : MapIs P k w b n ks vs) (hk : P.underlying k = some (.int .i64)) (ht : P.underlying t = some (.map k e)) :
    ∃ w' cnt, (Instr.range t (.map (some b))).run P w = .ok (.pointer (some ⟨w.heap.size, 0, none⟩)) w' ∧ RangeIs P k w' b w.heap.size n ks vs (fun x => decide (x ∈ ks)) cnt ∧ New w w' ∧ w.heap.size < w'.heap.size := by
  obtain ⟨D, h1, h2, h3⟩ := h
  obtain ⟨w', hrun, hr, hg, hs⟩ := h1.range (Maps.int_keyed hk) ht
  exact ⟨w', _, hrun, ⟨D, _, hr, h2, fun x hx => by simpa using hx, h2, h3⟩, (Chg.of_grown hg).mono (fun i _ hi => by cases hi), by omega⟩

/-- range m. -/
theorem wpList_mapRange (hgd : o.guard = none) (m : Operand) (t : TypeId) (ho : o.op = Op.range t m) (k e : TypeId) (hk : P.underlying k = some (.int .i64)) (ht : P.underlying t = some (.map k e))
    (b n : Nat) (ks : List Int) (vs : List Value) (hm : a.eval m = .map (some b)) (h : MapIs P k w b n ks vs)
    (hK : ∀ w' cnt, RangeIs P k w' b w.heap.size n ks vs (fun x => decide (x ∈ ks)) cnt → New w w' → w.heap.size < w'.heap.size → wpList P ops Q rest (a.put o.dst (.pointer (some ⟨w.heap.size, 0, none⟩))) w') : wpList P ops Q (o :: rest) a w := by
  obtain ⟨D, h1, h2, h3⟩ := h
  refine wpList_range_own w hgd m t ho k e (Maps.int_keyed hk) ht slE b n D hm h1 (fun w' hr hg hs => hK w' _ ⟨D, _, hr, h2, fun x hx => by simpa using hx, h2, h3⟩ ((Chg.of_grown hg).mono (fun i _ hi => by cases hi)) (by omega))

/-- The next entry. -/
theorem wpList_mapNext (hgd : o.guard = none) (it : Operand) (ho : o.op = Op.next it false) (k : TypeId) (hk : P.underlying k = some (.int .i64)) (b r n : Nat) (ks : List Int) (vs : List Value) (rem : Int → Bool) (cnt : Nat)
    (hit : a.eval it = .pointer (some ⟨r, 0, none⟩)) (h : RangeIs P k w b r n ks vs rem cnt)
    (hDone : (∀ x, rem x = false) → wpList P ops Q rest (a.put o.dst (.tuple #[.bool false])) w)
    (hMore : ∀ (i : Nat) (sa : Option Addr) (sn sc : Nat) (w' : World) (cnt' : Nat), i < ks.length → gv vs i = .slice sa sn sc → rem (gi ks i) = true → RangeIs P k w' b r n ks vs (remWo rem (gi ks i)) cnt' → cnt' < cnt → Chg (· = r) w w' → w'.heap.size = w.heap.size →
      (Instr.entry (.pointer (some ⟨r, 0, none⟩))).run P w' = .ok (.tuple #[.int .i64 (gi ks i), .slice sa sn sc]) w' → wpList P ops Q rest (a.put o.dst (.tuple #[.bool true, .int .i64 (gi ks i), .slice sa sn sc])) w') : wpList P ops Q (o :: rest) a w := by
  obtain ⟨D, left, h1, h2, h3, h4, h5⟩ := h
  refine wpList_next_ranges w hgd it ho k (Maps.int_keyed hk) slE (Value.int .i64) (fun s : Option Addr × Nat × Nat => Value.slice s.1 s.2.1 s.2.2) (fun key kl hkey => by obtain ⟨x, rfl, _⟩ := Maps.keyOf_int_inv hk hkey; exact ⟨x, rfl⟩)
    (fun v y hv => by obtain ⟨a, n, c, rfl, _⟩ := slE_inv hv; exact ⟨(a, n, c), rfl⟩) b r n D left cnt hit h1 (fun _ hl => hDone (fun x => by rw [← h2 x]; exact hl _)) (fun x s kl y w' cnt' hkey hlk hv hat hrg hlt hgr hsz hen => ?_)
  obtain ⟨sa, sn, sc⟩ := s
  obtain ⟨x', ex, rfl, hwx⟩ := Maps.keyOf_int_inv hk hkey
  cases ex
  have hrx : rem x = true := by rw [← h2 x]; exact hlk
  obtain ⟨i, hi, rfl⟩ := List.getElem_of_mem (h3 x hrx)
  rw [← gi_lt hi] at *
  obtain ⟨_, _, _, e, rfl⟩ := slE_inv hv
  cases e
  have hvv : gv vs i = .slice sa sn sc := by
    have h6 := h5 i hi .nil
    rw [hat .nil] at h6
    injection h6 with h6
    exact h6.symm
  refine hMore i sa sn sc w' cnt' hi hvv hrx ⟨D, _, hrg, fun z => ?_, fun z hz => h3 z (by simp only [remWo, Bool.and_eq_true] at hz; exact hz.1), h4, h5⟩ hlt ((Chg.of_grown hgr).mono (fun j _ hj => by injection hj with hj; exact hj.symm)) hsz hen
  rw [h2 z]
  unfold remWo
  by_cases e : z = gi ks i
  · subst e; simp [WideAt.sameKey_self (show WideAt.IsKeyLit (Lit.int .i64 (gi ks i)) from (Maps.int_keyed hk).key hkey)]
  · rw [Maps.sameKey_ne (lit_ne e)]; simp [e]
end
end Go.Proofs.YtcdbeepphdfipaaGreatDoor

namespace Go.Proofs.YtcdbeepphdfipaaGreatDoor
open Go.RowKit
set_option linter.unusedVariables false

section
variable {P : Program} {ops : Array Oper} {Q : Exit → Act → World → Prop} {md : Region.Mode} {S : World → Prop}

/-- What its guard passes over. -/
theorem held_skip {fuel : Nat} {listed : Array Bool} {a : Act} {w : World} (i : Nat) (d : Option Tmp) {oi : Oper} (hi : ops[i]? = some oi) (hd : oi.dst = d)
    (hs : Region.noSelect ops = true) (hf : Region.free md ops listed i = true) (hr : (Region.ready md ops listed).contains i = true)
    (hQ : ∀ c a w, Q (.panic c) (a.put d undef) w → Q (.panic c) a w) (hw : Region.wanted oi (yielded ops a.tmps) = false) (hS : S w)
    (h : wpAnyH P md ops Q S fuel (listed.setIfInBounds i true) (a.put d undef) w) : wpAnyH P md ops Q S (fuel + 1) listed a w := by
  subst hd
  exact wpAnyH_take hi hs hf hr hQ (.inr ⟨hw, rfl⟩) hS h

/-- What yields its value in each world that meets S. -/
theorem held_take {fuel : Nat} {listed : Array Bool} {a : Act} {w : World} (i : Nat) (d : Option Tmp) {oi : Oper} {v : Value} (hi : ops[i]? = some oi) (hd : oi.dst = d)
    (hs : Region.noSelect ops = true) (hf : Region.free md ops listed i = true) (hr : (Region.ready md ops listed).contains i = true)
    (hQ : ∀ c a w, Q (.panic c) (a.put d v) w → Q (.panic c) a w) (hw : Region.wanted oi (yielded ops a.tmps) = true) (hS : S w)
    (hy : ∀ w, S w → (execOp a.eval oi).run P w = .ok (.value v) w)
    (h : wpAnyH P md ops Q S fuel (listed.setIfInBounds i true) (a.put d v) w) : wpAnyH P md ops Q S (fuel + 1) listed a w := by
  subst hd
  exact wpAnyH_take hi hs hf hr hQ (.inl ⟨hw, hy⟩) hS h

/-- What alone may come up. -/
theorem held_only {fuel : Nat} {listed : Array Bool} {a : Act} {w : World} (i : Nat) {o : Oper} (hr : Region.ready md ops listed = [i]) (ho : ops[i]? = some o)
    (hw : Region.wanted o (yielded ops a.tmps) = true)
    (h : ∀ K' : Act → World → Prop, Shut (∀ a w, S w → (S w → wpAnyH P md ops Q S fuel (listed.setIfInBounds i true) a w) → K' a w) → Oper.wp P o a w K' Q) : wpAnyH P md ops Q S (fuel + 1) listed a w :=
  wpAnyH_ready (rs := [i]) hr (by simp) (AllReadyH.cons ho (fun K' hK => by rw [if_pos hw]; exact h K' hK) AllReadyH.nil)
/-- One of several that may come up. -/
theorem ready_cons {fuel : Nat} {listed : Array Bool} {a : Act} {w : World} {rs : List Nat} (i : Nat) {o : Oper} (ho : ops[i]? = some o) (hw : Region.wanted o (yielded ops a.tmps) = true)
    (h : ∀ K' : Act → World → Prop, Shut (∀ a w, S w → (S w → wpAnyH P md ops Q S fuel (listed.setIfInBounds i true) a w) → K' a w) → Oper.wp P o a w K' Q)
    (hs : AllReadyH P md ops Q S fuel listed a w rs) : AllReadyH P md ops Q S fuel listed a w (i :: rs) :=
  AllReadyH.cons ho (fun K' hK => by rw [if_pos hw]; exact h K' hK) hs
end
end Go.Proofs.YtcdbeepphdfipaaGreatDoor
