/- The program's way to reduced rows, as plain functions on lists, and what holds of it. The reference's way to reduced rows, as plain steps on lists; reduced rows are told by what they span. The tail of a slice of numbers. -/
import Derived.Test.YtcdbeepphdfipaaGreatDoorBase
namespace Go.Proofs.YtcdbeepphdfipaaGreatDoor
open Mat
set_option linter.unusedVariables false

/-- A row of n rests. -/
def GoodRow (p : Int) (n : Nat) (x : List Int) : Prop := x.length = n ∧ ∀ i, i < n → 0 ≤ gi x i ∧ gi x i < p
/-- All rows are rows of n rests. -/
def GoodRows (p : Int) (n : Nat) (R : List (List Int)) : Prop := ∀ i, i < R.length → GoodRow p n (gr R i)

/-- The index of the first number that is not 0. -/
def ldN (x : List Int) : Nat := (leadZ x).toNat

theorem gi_ge {xs : List Int} {i : Nat} (h : xs.length ≤ i) : gi xs i = 0 := by simp [gi, h]
theorem gr_ge {xs : List (List Int)} {i : Nat} (h : xs.length ≤ i) : gr xs i = [] := by simp [gr, h]

theorem addZ_get (p : Int) (xs : List Int) (b : Int) (ys : List Int) (hl : xs.length = ys.length) {i : Nat} (hi : i < xs.length) : gi (addZ p xs b ys) i = (gi xs i + b * gi ys i) % p := by
  unfold addZ
  rw [addTo_get _ _ _ _ _ hi, if_pos (by omega)]

theorem GoodRow.add {p : Int} {n : Nat} {x y : List Int} (hp : 0 < p) (hx : GoodRow p n x) (hy : y.length = n) (b : Int) : GoodRow p n (addZ p x b y) := by
  refine ⟨by rw [addZ_length]; exact hx.1, fun i hi => ?_⟩
  rw [addZ_get _ _ _ _ (by rw [hx.1, hy]) (by rw [hx.1]; exact hi)]
  exact ⟨Int.emod_nonneg _ (by omega), Int.emod_lt_of_pos _ hp⟩

section
variable {p : Nat} [NeZero p]

/-- A list as a vector over the rests. -/
def vec (p : Nat) [NeZero p] (xs : List Int) : Nat → Fin p := fun k => phi p (gi xs k)
/-- Rows as vectors. -/
def mat (p : Nat) [NeZero p] (R : List (List Int)) : Nat → Nat → Fin p := fun i => vec p (gr R i)

theorem vec_ge {xs : List Int} {k : Nat} (h : xs.length ≤ k) : vec p xs k = 0 := by unfold vec; rw [gi_ge h, phi_zero]

theorem vec_add {xs ys : List Int} {b : Int} (hl : xs.length = ys.length) (k : Nat) : vec p (addZ p xs b ys) k = vec p xs k + phi p b * vec p ys k := by
  by_cases h : k < xs.length
  · unfold vec
    rw [addZ_get _ _ _ _ hl h, phi_emod, phi_add, phi_mul]
  · rw [vec_ge (by rw [addZ_length]; omega), vec_ge (by omega), vec_ge (by omega)]; grind

theorem vec_zero {n : Nat} {x : List Int} (h : GoodRow p n x) {k : Nat} : vec p x k = 0 ↔ gi x k = 0 := by
  by_cases hk : k < n
  · exact phi_eq_zero (h.2 k hk).1 (h.2 k hk).2
  · rw [vec_ge (by rw [h.1]; omega), gi_ge (by rw [h.1]; omega)]; simp

theorem vec_inj {n : Nat} {x y : List Int} (hx : GoodRow p n x) (hy : GoodRow p n y) (h : ∀ k, k < n → vec p x k = vec p y k) : x = y := by
  refine ext_gi (by rw [hx.1, hy.1]) (fun i hi => ?_)
  rw [hx.1] at hi
  exact phi_eq_of_range (hx.2 i hi).1 (hx.2 i hi).2 (hy.2 i hi).1 (hy.2 i hi).2 (h i hi)

theorem nzB_false {x : Int} : nzB x = false ↔ x = 0 := by simp [nzB]
theorem nzB_true {x : Int} : nzB x = true ↔ x ≠ 0 := by simp [nzB]

/-- No number is not 0. -/
theorem lead_none {n : Nat} {x : List Int} (h : GoodRow p n x) (hl : leadZ x < 0) (k : Nat) : vec p x k = 0 := by
  have h1 := fiZ_ge nzB x
  rw [vec_zero h]
  by_cases hk : k < x.length
  · exact nzB_false.1 (fiZ_all.1 (show fiZ nzB x = -1 by have : leadZ x = fiZ nzB x := rfl; omega) k hk)
  · exact gi_ge (by omega)

/-- The first number that is not 0. -/
theorem lead_some {n : Nat} {x : List Int} (h : GoodRow p n x) (hl : 0 ≤ leadZ x) : ldN x < n ∧ vec p x (ldN x) ≠ 0 ∧ ∀ k, k < ldN x → vec p x k = 0 := by
  have h1 := fiZ_at (g := nzB) (xs := x) (k := ldN x) (by show leadZ x = _; unfold ldN; omega)
  rw [h.1] at h1
  exact ⟨h1.1, fun e => nzB_true.1 h1.2.1 ((vec_zero h).1 e), fun k hk => (vec_zero h).2 (nzB_false.1 (h1.2.2 k hk))⟩

theorem lead_is {n : Nat} {x : List Int} (h : GoodRow p n x) {l : Nat} (hl : l < n) (h1 : vec p x l ≠ 0) (h2 : ∀ k, k < l → vec p x k = 0) : leadZ x = l :=
  fiZ_found (g := nzB) (by rw [h.1]; exact hl) (nzB_true.2 (fun e => h1 ((vec_zero h).2 e))) (fun j hj => nzB_false.2 ((vec_zero h).1 (h2 j hj)))

theorem phi_inv (hp : Pr p) {x : Int} (h1 : 1 ≤ x) (h2 : x < p) : phi p x * phi p (invZ p x) = 1 := by
  have := invZ_spec (p := (p : Int)) (x := x) (prB_iff.2 (by rcases hp with h | h | h | h <;> omega)) h1 h2
  rw [← phi_mul, ← phi_one]
  have h3 := hp.pos
  exact phi_congr (by rw [this.2.2, Int.emod_eq_of_lt (by omega) (by omega)])

/-! The program's way. -/

/-- A row less what the others tell. -/
def elimL (p : Int) (row : List Int) (out : List (List Int)) : List Int := out.foldl (fun r x => addZ p r (-(gi r (ldN x))) x) row

theorem elimL_snoc (q : Int) (row : List Int) (out : List (List Int)) (x : List Int) : elimL q row (out ++ [x]) = addZ q (elimL q row out) (-(gi (elimL q row out) (ldN x))) x := by
  simp [elimL, List.foldl_append]

/-- What holds of the rows so far. -/
structure Inv (p : Nat) [NeZero p] (n : Nat) (R out : List (List Int)) : Prop where
  good : GoodRows p n out
  lead : ∀ i, i < out.length → 0 ≤ leadZ (gr out i)
  rr : RR (mat p out) out.length (fun i => ldN (gr out i))
  span : ∀ v, Span (mat p R) R.length v ↔ Span (mat p out) out.length v

theorem Inv.empty (n : Nat) : Inv p n [] [] :=
  ⟨fun i hi => by simp at hi, fun i hi => by simp at hi, ⟨fun i j hi => by simp at hi, fun i k hi => by simp at hi⟩, fun v => Iff.rfl⟩

theorem elim_inv {n : Nat} {R out : List (List Int)} {row : List Int} (h0 : (0 : Int) < p) (h : Inv p n R out) (hr : GoodRow p n row) (k : Nat) (hk : k ≤ out.length) :
    GoodRow p n (elimL p row (out.take k)) ∧ (∀ i, i < k → vec p (elimL p row (out.take k)) (ldN (gr out i)) = 0) ∧
      Span (mat p out) out.length (fun t => vec p row t - vec p (elimL p row (out.take k)) t) := by
  induction k with
  | zero =>
    refine ⟨by simpa [elimL] using hr, fun i hi => by omega, (Span.zero _ _).congr (fun t => ?_)⟩
    simp only [List.take_zero, elimL, List.foldl_nil]; grind
  | succ k ih =>
    obtain ⟨h1, h2, h3⟩ := ih (by omega)
    have hx := h.good k (by omega)
    rw [take_succ_gr (by omega), elimL_snoc]
    have hlen : (elimL p row (out.take k)).length = (gr out k).length := by rw [h1.1, hx.1]
    refine ⟨h1.add h0 hx.1 _, fun i hi => ?_, (h3.add ((Span.row (mat p out) (i := k) (by omega)).smul (vec p (elimL p row (out.take k)) (ldN (gr out k))))).congr (fun t => ?_)⟩
    · rw [vec_add hlen, phi_neg]
      have hu := h.rr.unit k i (by omega) (by omega)
      change vec p (gr out k) (ldN (gr out i)) = _ at hu
      change _ + -vec p (elimL p row (out.take k)) (ldN (gr out k)) * _ = 0
      by_cases e : k = i
      · subst e
        rw [if_pos rfl] at hu
        rw [hu]; grind
      · rw [if_neg e] at hu
        rw [hu, h2 i (by omega)]; grind
    · rw [vec_add hlen, phi_neg]
      change _ - (_ + -vec p (elimL p row (out.take k)) (ldN (gr out k)) * vec p (gr out k) t) = _ + _ * vec p (gr out k) t
      grind

/-- A row with a leading 1. -/
def normZ (p : Int) (r : List Int) : List Int := addZ p r (invZ p (gi r (ldN r)) - 1) r

/-- One row more. -/
def redStep (p : Int) (out : List (List Int)) (row : List Int) : List (List Int) :=
  if leadZ (elimL p row out) < 0 then out else
    out.map (fun x => addZ p x (-(gi x (ldN (elimL p row out)))) (normZ p (elimL p row out))) ++ [normZ p (elimL p row out)]

theorem gr_map {R : List (List Int)} {f : List Int → List Int} {i : Nat} (hi : i < R.length) : gr (R.map f) i = f (gr R i) := by
  rw [gr_lt (by simpa using hi), gr_lt hi]; simp

theorem gr_snoc_lt {R : List (List Int)} {x : List Int} {i : Nat} (h : i < R.length) : gr (R ++ [x]) i = gr R i := by
  rw [gr_lt (by simp; omega), gr_lt h, List.getElem_append_left h]

theorem gr_snoc_eq {R : List (List Int)} {x : List Int} {i : Nat} (h : i = R.length) : gr (R ++ [x]) i = x := by
  rw [gr_lt (by simp; omega)]; simp [h]

theorem norm_facts (hp : Pr p) {n : Nat} {r : List Int} (hr : GoodRow p n r) (hl : 0 ≤ leadZ r) :
    GoodRow p n (normZ p r) ∧ vec p (normZ p r) (ldN r) = 1 ∧ (∀ k, vec p (normZ p r) k = phi p (invZ p (gi r (ldN r))) * vec p r k) ∧ (∀ k, vec p r k = vec p r (ldN r) * vec p (normZ p r) k) ∧ leadZ (normZ p r) = ldN r := by
  have h3 := hp.pos
  obtain ⟨a, b, c⟩ := lead_some hr hl
  have hg : gi r (ldN r) ≠ 0 := fun e => b ((vec_zero hr).2 e)
  have hrange := hr.2 _ a
  have hinv := phi_inv hp (x := gi r (ldN r)) (by omega) hrange.2
  have e : ∀ k, vec p (normZ p r) k = phi p (invZ p (gi r (ldN r))) * vec p r k := by
    intro k
    unfold normZ
    rw [vec_add rfl, phi_sub, phi_one]; grind
  have e1 : vec p (normZ p r) (ldN r) = 1 := by
    rw [e]
    change _ * phi p (gi r (ldN r)) = 1
    grind
  have hgood : GoodRow p n (normZ p r) := hr.add (by omega) hr.1 _
  refine ⟨hgood, e1, e, fun k => ?_, lead_is hgood a (by rw [e1]; exact one_ne_zero h3.1) (fun k hk => by rw [e, c k hk]; grind)⟩
  rw [e]
  change _ = phi p (gi r (ldN r)) * _
  grind

theorem Inv.step (hp : Pr p) {n : Nat} {R out : List (List Int)} {row : List Int} (h : Inv p n R out) (hr : GoodRow p n row) : Inv p n (R ++ [row]) (redStep p out row) := by
  have hpos := hp.pos
  obtain ⟨g1, z1, s1⟩ := elim_inv (by omega) h hr out.length (Nat.le_refl _)
  rw [List.take_length] at g1 z1 s1
  obtain ⟨r1, hr1⟩ : ∃ r1, r1 = elimL p row out := ⟨_, rfl⟩
  have eR : ∀ i, i < R.length → mat p (R ++ [row]) i = mat p R i := fun i hi => by unfold mat; rw [gr_snoc_lt hi]
  have eL : mat p (R ++ [row]) R.length = vec p row := by unfold mat; rw [gr_snoc_eq rfl]
  have up : ∀ v, Span (mat p R) R.length v → Span (mat p (R ++ [row])) (R ++ [row]).length v := fun v hv => hv.mono (fun i hi => by
    rw [← eR i hi]; exact Span.row _ (by simp; omega))
  unfold redStep
  rw [← hr1] at g1 z1 s1 ⊢
  split
  · rename_i hneg
    have hz := lead_none g1 hneg
    refine ⟨h.good, h.lead, h.rr, fun v => ⟨fun hv => hv.mono (fun i hi => ?_), fun hv => up v ((h.span v).2 hv)⟩⟩
    simp at hi
    by_cases e : i < R.length
    · rw [eR i e]; exact (h.span _).1 (Span.row _ e)
    · obtain rfl : i = R.length := by omega
      rw [eL]
      exact s1.congr (fun t => by rw [hz t]; grind)
  · rename_i hneg
    have hl : 0 ≤ leadZ r1 := by omega
    obtain ⟨a, b, c⟩ := lead_some g1 hl
    obtain ⟨g2, one, e2, e3, ld2⟩ := norm_facts hp g1 hl
    obtain ⟨r2, hr2⟩ : ∃ r2, r2 = normZ p r1 := ⟨_, rfl⟩
    obtain ⟨l, hL⟩ : ∃ l, l = ldN r1 := ⟨_, rfl⟩
    rw [← hr2] at g2 one e2 e3 ld2 ⊢
    rw [← hL] at a b c one e3 ld2 ⊢
    have zr2 : ∀ i, i < out.length → vec p r2 (ldN (gr out i)) = 0 := fun i hi => by rw [e2, z1 i hi]; grind
    have fr2 : ∀ k, k < l → vec p r2 k = 0 := fun k hk => by rw [e2, c k hk]; grind
    -- the rows that were there
    obtain ⟨f, hf⟩ : ∃ f : List Int → List Int, f = fun x => addZ p x (-(gi x l)) r2 := ⟨_, rfl⟩
    rw [← hf]
    have hfx : ∀ i, i < out.length → GoodRow p n (f (gr out i)) ∧ (∀ k, vec p (f (gr out i)) k = vec p (gr out i) k - vec p (gr out i) l * vec p r2 k) := fun i hi => by
      have hx := h.good i hi
      rw [hf]
      refine ⟨hx.add (by omega) g2.1 _, fun k => ?_⟩
      show vec p (addZ p _ _ r2) k = _
      rw [vec_add (by rw [hx.1, g2.1]), phi_neg]
      change _ + -vec p (gr out i) l * _ = _
      grind
    have hxl : ∀ i, i < out.length → ∀ k, k < ldN (gr out i) → vec p (f (gr out i)) k = 0 := fun i hi k hk => by
      rw [(hfx i hi).2]
      have h0 : vec p (gr out i) k = 0 := h.rr.front i k hi hk
      rw [h0]
      by_cases hkl : k < l
      · rw [fr2 k hkl]; grind
      · have h1 : vec p (gr out i) l = 0 := h.rr.front i l hi (by omega)
        rw [h1]; grind
    have hx1 : ∀ i j, i < out.length → j < out.length → vec p (f (gr out i)) (ldN (gr out j)) = if i = j then 1 else 0 := fun i j hi hj => by
      rw [(hfx i hi).2, zr2 j hj]
      have hu : vec p (gr out i) (ldN (gr out j)) = _ := h.rr.unit i j hi hj
      rw [hu]; grind
    have hld : ∀ i, i < out.length → leadZ (f (gr out i)) = ldN (gr out i) := fun i hi =>
      lead_is (hfx i hi).1 (lead_some (h.good i hi) (h.lead i hi)).1 (by rw [hx1 i i hi hi, if_pos rfl]; exact one_ne_zero hpos.1) (hxl i hi)
    have gA : ∀ i, i < out.length → gr (out.map f ++ [r2]) i = f (gr out i) := fun i hi => by rw [gr_snoc_lt (by simpa using hi), gr_map hi]
    have gB : gr (out.map f ++ [r2]) out.length = r2 := gr_snoc_eq (by simp)
    have hlen : (out.map f ++ [r2]).length = out.length + 1 := by simp
    have mA : ∀ i, i < out.length → mat p (out.map f ++ [r2]) i = vec p (f (gr out i)) := fun i hi => by unfold mat; rw [gA i hi]
    have mB : mat p (out.map f ++ [r2]) out.length = vec p r2 := by unfold mat; rw [gB]
    have sr2 : Span (mat p (out.map f ++ [r2])) (out.length + 1) (vec p r2) := by rw [← mB]; exact Span.row _ (by omega)
    have down : ∀ v, Span (mat p out) out.length v → Span (mat p (out.map f ++ [r2])) (out.length + 1) v := fun v hv => hv.mono (fun i hi => by
      have hx : Span (mat p (out.map f ++ [r2])) (out.length + 1) (vec p (f (gr out i))) := by rw [← mA i hi]; exact Span.row _ (by omega)
      exact (hx.add (sr2.smul (vec p (gr out i) l))).congr (fun k => by
        rw [(hfx i hi).2]; change vec p (gr out i) k = _; grind))
    have srow1 : Span (mat p (R ++ [row])) (R ++ [row]).length (vec p r1) := by
      have q1 : Span (mat p (R ++ [row])) (R ++ [row]).length (vec p row) := by rw [← eL]; exact Span.row _ (by simp)
      exact (q1.sub (up _ ((h.span _).2 s1))).congr (fun k => by grind)
    have srow2 : Span (mat p (R ++ [row])) (R ++ [row]).length (vec p r2) := (srow1.smul (phi p (invZ p (gi r1 l)))).congr (fun k => by rw [e2, ← hL])
    refine ⟨fun i hi => ?_, fun i hi => ?_, ⟨fun i j hi hj => ?_, fun i k hi hk => ?_⟩, fun v => ⟨fun hv => ?_, fun hv => ?_⟩⟩
    · rw [hlen] at hi
      by_cases e : i < out.length
      · rw [gA i e]; exact (hfx i e).1
      · obtain rfl : i = out.length := by omega
        rw [gB]; exact g2
    · rw [hlen] at hi
      by_cases e : i < out.length
      · rw [gA i e, hld i e]; omega
      · obtain rfl : i = out.length := by omega
        rw [gB, ld2]; omega
    · rw [hlen] at hi hj
      have lA : ∀ j, j < out.length → ldN (gr (out.map f ++ [r2]) j) = ldN (gr out j) := fun j hj => by rw [gA j hj]; show (leadZ _).toNat = _; rw [hld j hj]; simp
      have lB : ldN (gr (out.map f ++ [r2]) out.length) = l := by rw [gB]; show (leadZ _).toNat = _; rw [ld2]; simp
      by_cases e : i < out.length
      · rw [mA i e]
        by_cases e' : j < out.length
        · rw [lA j e']; exact hx1 i j e e'
        · obtain rfl : j = out.length := by omega
          rw [lB, (hfx i e).2, one, if_neg (by omega)]; grind
      · obtain rfl : i = out.length := by omega
        rw [mB]
        by_cases e' : j < out.length
        · rw [lA j e', zr2 j e', if_neg (by omega)]
        · obtain rfl : j = out.length := by omega
          rw [lB, one, if_pos rfl]
    · rw [hlen] at hi
      by_cases e : i < out.length
      · rw [mA i e]
        have : ldN (gr (out.map f ++ [r2]) i) = ldN (gr out i) := by rw [gA i e]; show (leadZ _).toNat = _; rw [hld i e]; simp
        exact hxl i e k (by rw [← this]; exact hk)
      · obtain rfl : i = out.length := by omega
        rw [mB]
        have : ldN (gr (out.map f ++ [r2]) out.length) = l := by rw [gB]; show (leadZ _).toNat = _; rw [ld2]; simp
        exact fr2 k (by rw [← this]; exact hk)
    · rw [hlen]
      refine hv.mono (fun i hi => ?_)
      simp at hi
      by_cases e : i < R.length
      · rw [eR i e]; exact down _ ((h.span _).1 (Span.row _ e))
      · obtain rfl : i = R.length := by omega
        rw [eL]
        exact ((down _ s1).add (sr2.smul (vec p r1 l))).congr (fun k => by rw [← e3 k]; grind)
    · rw [hlen] at hv
      refine hv.mono (fun i hi => ?_)
      by_cases e : i < out.length
      · rw [mA i e]
        have q := up _ ((h.span _).2 (Span.row (mat p out) e))
        exact (q.sub (srow2.smul (vec p (gr out i) l))).congr (fun k => by rw [(hfx i e).2]; rfl)
      · obtain rfl : i = out.length := by omega
        rw [mB]; exact srow2

/-- All rows, one after the other. -/
def redAll (p : Int) (rows : List (List Int)) : List (List Int) := rows.foldl (redStep p) []

theorem redAll_snoc (q : Int) (rows : List (List Int)) (x : List Int) : redAll q (rows ++ [x]) = redStep q (redAll q rows) x := by simp [redAll, List.foldl_append]

theorem redAll_inv (hp : Pr p) {n : Nat} {rows : List (List Int)} (hr : GoodRows p n rows) (k : Nat) (hk : k ≤ rows.length) : Inv p n (rows.take k) (redAll p (rows.take k)) := by
  induction k with
  | zero => exact Inv.empty n
  | succ k ih =>
    rw [take_succ_gr (by omega), redAll_snoc]
    exact (ih (by omega)).step hp (hr k (by omega))
end
end Go.Proofs.YtcdbeepphdfipaaGreatDoor

namespace Go.Proofs.YtcdbeepphdfipaaGreatDoor
open Mat
set_option linter.unusedVariables false

theorem ext_gr {A B : List (List Int)} (hl : A.length = B.length) (h : ∀ i, i < A.length → gr A i = gr B i) : A = B := by
  apply List.ext_getElem hl
  intro i h1 h2
  have := h i h1
  rwa [gr_lt h1, gr_lt h2] at this

theorem gr_set {R : List (List Int)} {k : Nat} {y : List Int} {i : Nat} (hi : i < R.length) : gr (R.set k y) i = if k = i then y else gr R i := by
  rw [gr_lt (by simpa using hi), List.getElem_set, gr_lt hi]

theorem gr_take {R : List (List Int)} {k i : Nat} (hi : i < k) (h : i < R.length) : gr (R.take k) i = gr R i := by
  rw [gr_lt (by simp; omega), gr_lt h, List.getElem_take]

theorem gi_replicate (n : Nat) (i : Nat) : gi (List.replicate n 0) i = 0 := by
  unfold gi
  by_cases h : i < n <;> simp [h]

/-- A row with a number of its own times it. -/
def scaleZ (p : Int) (row : List Int) (f : Int) : List Int := addZ p (List.replicate row.length 0) f row

theorem scale_good {p n : Nat} {row : List Int} {f : Int} (h0 : (0 : Int) < p) (h : row.length = n) : GoodRow p n (scaleZ p row f) :=
  GoodRow.add h0 ⟨by simp [h], fun i _ => by rw [gi_replicate]; exact ⟨Int.le_refl _, h0⟩⟩ h _

section
variable {p : Nat} [NeZero p]

/-- out are the reduced rows of R. -/
structure IsRed (p : Nat) [NeZero p] (n : Nat) (R out : List (List Int)) : Prop where
  inv : Inv p n R out
  asc : ∀ i j, i < j → j < out.length → ldN (gr out i) < ldN (gr out j)

theorem IsRed.unique (hp : Pr p) {n : Nat} {R A B : List (List Int)} (h : IsRed p n R A) (h' : IsRed p n R B) : A = B := by
  obtain ⟨hl, hh⟩ := RR.unique hp.pos.1 h.inv.rr h'.inv.rr h.asc h'.asc (fun v => ((h.inv.span v).symm.trans (h'.inv.span v)))
  exact ext_gr hl (fun i hi => vec_inj (h.inv.good i hi) (h'.inv.good i (by omega)) (fun k _ => (hh i hi).2 k))

/-- Leads of rows that are reduced are all different. -/
theorem Inv.lead_ne (hp : Pr p) {n : Nat} {R out : List (List Int)} (h : Inv p n R out) {i j : Nat} (hi : i < out.length) (hj : j < out.length) (hne : i ≠ j) : ldN (gr out i) ≠ ldN (gr out j) := by
  intro e
  have h1 := h.rr.unit i j hi hj
  have h2 := h.rr.unit i i hi hi
  simp only [e] at h2
  rw [h1, if_neg hne] at h2
  simp at h2
  have := hp.pos
  omega

/-! The reference's way. -/

/-- One of the other rows less what it has at the column. -/
def updZ (p : Int) (c : Nat) (prow r : List Int) : List Int := addZ p r (p - gi r c) prow
/-- The first k rows, but for one, are less what they have at the column. -/
def updTo (p : Int) (at' c : Nat) (prow : List Int) (a : List (List Int)) (k : Nat) : List (List Int) := a.mapIdx (fun j r => if j < k ∧ j ≠ at' then updZ p c prow r else r)

theorem updTo_length (q : Int) (at' c : Nat) (prow : List Int) (a : List (List Int)) (k : Nat) : (updTo q at' c prow a k).length = a.length := by simp [updTo]
theorem updTo_get (q : Int) (at' c : Nat) (prow : List Int) (a : List (List Int)) (k : Nat) {i : Nat} (hi : i < a.length) : gr (updTo q at' c prow a k) i = if i < k ∧ i ≠ at' then updZ q c prow (gr a i) else gr a i := by
  rw [gr_lt (by rw [updTo_length]; exact hi), gr_lt hi]
  simp [updTo]

theorem updTo_zero (q : Int) (at' c : Nat) (prow : List Int) (a : List (List Int)) : updTo q at' c prow a 0 = a :=
  ext_gr (updTo_length _ _ _ _ _ _) (fun i hi => by rw [updTo_length] at hi; rw [updTo_get _ _ _ _ _ _ hi, if_neg (by omega)])

theorem updTo_succ (q : Int) (at' c : Nat) (prow : List Int) (a : List (List Int)) (k : Nat) (hk : k < a.length) (hne : k ≠ at') : (updTo q at' c prow a k).set k (updZ q c prow (gr a k)) = updTo q at' c prow a (k + 1) := by
  refine ext_gr (by simp [updTo]) (fun i hi => ?_)
  rw [List.length_set, updTo_length] at hi
  rw [gr_set (by rw [updTo_length]; exact hi), updTo_get _ _ _ _ _ _ hi, updTo_get _ _ _ _ _ _ hi]
  by_cases e : k = i
  · subst e; rw [if_pos rfl, if_pos ⟨by omega, hne⟩]
  · rw [if_neg e]
    by_cases h : i < k ∧ i ≠ at'
    · rw [if_pos h, if_pos ⟨by omega, h.2⟩]
    · rw [if_neg h, if_neg (by omega)]

theorem updTo_skip (q : Int) (c : Nat) (prow : List Int) (a : List (List Int)) (k : Nat) : updTo q k c prow a (k + 1) = updTo q k c prow a k := by
  refine ext_gr (by simp [updTo]) (fun i hi => ?_)
  rw [updTo_length] at hi
  rw [updTo_get _ _ _ _ _ _ hi, updTo_get _ _ _ _ _ _ hi]
  by_cases h : i < k ∧ i ≠ k
  · rw [if_pos h, if_pos (by omega)]
  · rw [if_neg h, if_neg (by omega)]

/-- The rows with the picked one in its place. -/
def swapIn (p : Int) (a : List (List Int)) (at' c q : Nat) : List (List Int) := (a.set q (gr a at')).set at' (scaleZ p (gr a q) (invZ p (gi (gr a q) c)))
/-- A column's work. -/
def colStep (p : Int) (a : List (List Int)) (at' c q : Nat) : List (List Int) := updTo p at' c (scaleZ p (gr a q) (invZ p (gi (gr a q) c))) (swapIn p a at' c q) a.length

/-- What holds ahead of column c. -/
structure Inv2 (p : Nat) [NeZero p] (n : Nat) (R a : List (List Int)) (at' c : Nat) (ld : Nat → Nat) : Prop where
  len : a.length = R.length
  good : GoodRows p n a
  atle : at' ≤ a.length
  below : ∀ i, i < at' → ld i < c
  asc : ∀ i j, i < j → j < at' → ld i < ld j
  unit : ∀ i j, i < a.length → j < at' → vec p (gr a i) (ld j) = if i = j then 1 else 0
  front : ∀ i k, i < at' → k < ld i → vec p (gr a i) k = 0
  low : ∀ i k, at' ≤ i → i < a.length → k < c → vec p (gr a i) k = 0
  span : ∀ v, Span (mat p R) R.length v ↔ Span (mat p a) a.length v

theorem Inv2.start {n : Nat} {R : List (List Int)} (h : GoodRows p n R) : Inv2 p n R R 0 0 (fun _ => 0) :=
  ⟨rfl, h, Nat.zero_le _, fun i hi => by omega, fun i j _ hj => by omega, fun i j _ hj => by omega, fun i k hi => by omega, fun i k _ _ hk => by omega, fun v => Iff.rfl⟩

theorem Inv2.skip {n : Nat} {R a : List (List Int)} {at' c : Nat} {ld : Nat → Nat} (h : Inv2 p n R a at' c ld) (h0 : ∀ j, at' ≤ j → j < a.length → gi (gr a j) c = 0) : Inv2 p n R a at' (c + 1) ld :=
  ⟨h.len, h.good, h.atle, fun i hi => by have := h.below i hi; omega, h.asc, h.unit, h.front, fun i k hi hl hk => by
    by_cases e : k = c
    · subst e; exact (vec_zero (h.good i hl)).2 (h0 i hi hl)
    · exact h.low i k hi hl (by omega), h.span⟩

theorem vec_scale {row : List Int} {f : Int} (k : Nat) : vec p (scaleZ p row f) k = phi p f * vec p row k := by
  unfold scaleZ
  rw [vec_add (by simp)]
  have : vec p (List.replicate row.length 0) k = 0 := by unfold vec; rw [gi_replicate, phi_zero]
  rw [this]; grind

theorem Inv2.pick (hp : Pr p) {n : Nat} {R a : List (List Int)} {at' c : Nat} {ld : Nat → Nat} (h : Inv2 p n R a at' c ld) (hc : c < n) {q : Nat} (h1 : at' ≤ q) (h2 : q < a.length) (h3 : gi (gr a q) c ≠ 0) :
    Inv2 p n R (colStep p a at' c q) (at' + 1) (c + 1) (fun i => if i < at' then ld i else c) := by
  have hpos := hp.pos
  have gq := h.good q h2
  have hrange := gq.2 c hc
  have hinv := phi_inv hp (x := gi (gr a q) c) (by omega) hrange.2
  obtain ⟨prow, hpr⟩ : ∃ x, x = scaleZ p (gr a q) (invZ p (gi (gr a q) c)) := ⟨_, rfl⟩
  have gp : GoodRow p n prow := by rw [hpr]; exact scale_good (by omega) gq.1
  have vp : ∀ k, vec p prow k = phi p (invZ p (gi (gr a q) c)) * vec p (gr a q) k := fun k => by rw [hpr]; exact vec_scale k
  have vp1 : vec p prow c = 1 := by
    rw [vp]; change _ * phi p (gi (gr a q) c) = 1; grind
  have vpr : ∀ k, vec p (gr a q) k = vec p (gr a q) c * vec p prow k := fun k => by
    rw [vp]; change _ = phi p (gi (gr a q) c) * _; grind
  have vp0 : ∀ k, k < c → vec p prow k = 0 := fun k hk => by rw [vp, h.low q k h1 h2 hk]; grind
  have vpl : ∀ j, j < at' → vec p prow (ld j) = 0 := fun j hj => by rw [vp, h.unit q j h2 hj, if_neg (by omega)]; grind
  obtain ⟨b, hb⟩ : ∃ b, b = swapIn p a at' c q := ⟨_, rfl⟩
  have lb : b.length = a.length := by rw [hb]; simp [swapIn]
  have bi : ∀ i, i < a.length → gr b i = if at' = i then prow else if q = i then gr a at' else gr a i := fun i hi => by
    rw [hb, swapIn, gr_set (by simpa using hi), gr_set hi, ← hpr]
  obtain ⟨z, hz⟩ : ∃ z, z = colStep p a at' c q := ⟨_, rfl⟩
  have lz : z.length = a.length := by rw [hz, colStep, updTo_length, ← hb, lb]
  have gb : ∀ i, i < a.length → GoodRow p n (gr b i) := fun i hi => by
    rw [bi i hi]; split
    · exact gp
    · split
      · exact h.good _ (by omega)
      · exact h.good _ hi
  have zi : ∀ i, i < a.length → i ≠ at' → gr z i = updZ p c prow (gr b i) := fun i hi hne => by
    rw [hz, colStep, ← hb, ← hpr, updTo_get _ _ _ _ _ _ (by omega), if_pos ⟨hi, hne⟩]
  have zat : gr z at' = prow := by
    rw [hz, colStep, ← hb, ← hpr, updTo_get _ _ _ _ _ _ (by omega), if_neg (by omega), bi _ (by omega), if_pos rfl]
  have vz : ∀ i, i < a.length → i ≠ at' → ∀ k, vec p (gr z i) k = vec p (gr b i) k - vec p (gr b i) c * vec p prow k := fun i hi hne k => by
    rw [zi i hi hne]
    unfold updZ
    rw [vec_add (by rw [(gb i hi).1, gp.1]), phi_sub, phi_self]
    change _ + (0 - vec p (gr b i) c) * _ = _
    grind
  have gz : ∀ i, i < a.length → GoodRow p n (gr z i) := fun i hi => by
    by_cases e : i = at'
    · subst e; rw [zat]; exact gp
    · rw [zi i hi e]; exact (gb i hi).add (by omega) gp.1 _
  have vb : ∀ i, i < a.length → i ≠ at' → ∀ j, j < at' → vec p (gr b i) (ld j) = if i = j then 1 else 0 := fun i hi hne j hj => by
    rw [bi i hi, if_neg (fun e => hne e.symm)]
    split
    · rename_i e; subst e
      rw [h.unit at' j (by omega) hj, if_neg (by omega), if_neg (by omega)]
    · exact h.unit i j hi hj
  rw [← hz]
  have down : ∀ v, Span (mat p z) z.length v → Span (mat p a) a.length v := fun v hv => hv.mono (fun i hi => by
    rw [lz] at hi
    have sq : Span (mat p a) a.length (vec p prow) := ((Span.row (mat p a) h2).smul (phi p (invZ p (gi (gr a q) c)))).congr (fun k => vp k)
    by_cases e : i = at'
    · subst e; change Span _ _ (vec p (gr z i)); rw [zat]; exact sq
    · have sb : Span (mat p a) a.length (vec p (gr b i)) := by
        rw [bi i hi, if_neg (fun e' => e e'.symm)]
        split
        · exact Span.row (mat p a) (i := at') (by omega)
        · exact Span.row (mat p a) hi
      exact (sb.sub (sq.smul (vec p (gr b i) c))).congr (fun k => vz i hi e k))
  have up : ∀ v, Span (mat p a) a.length v → Span (mat p z) z.length v := fun v hv => hv.mono (fun i hi => by
    have sp : Span (mat p z) z.length (vec p prow) := by
      have := Span.row (mat p z) (m := z.length) (i := at') (by omega)
      change Span _ _ (vec p (gr z at')) at this
      rwa [zat] at this
    have sz : ∀ j, j < a.length → j ≠ at' → Span (mat p z) z.length (vec p (gr b j)) := fun j hj hne =>
      ((Span.row (mat p z) (m := z.length) (i := j) (by omega)).add (sp.smul (vec p (gr b j) c))).congr (fun k => by
        change _ = vec p (gr z j) k + _; rw [vz j hj hne]; grind)
    change Span _ _ (vec p (gr a i))
    by_cases e : i = q
    · subst e
      exact (sp.smul (vec p (gr a i) c)).congr (fun k => vpr k)
    · by_cases e' : i = at'
      · subst e'
        have := sz q h2 (fun x => e x.symm)
        rwa [bi q h2, if_neg e, if_pos rfl] at this
      · have := sz i hi e'
        rwa [bi i hi, if_neg (fun x => e' x.symm), if_neg (fun x => e x.symm)] at this)
  refine ⟨by rw [lz, h.len], fun i hi => gz i (by omega), by omega, fun i hi => ?_, fun i j hij hj => ?_, fun i j hi hj => ?_, fun i k hi hk => ?_, fun i k hi hl hk => ?_, fun v => (h.span v).trans ⟨up v, down v⟩⟩
  · split
    · rename_i e; have := h.below i e; omega
    · omega
  · rw [if_pos (show i < at' by omega)]
    split
    · rename_i e; exact h.asc i j hij e
    · exact h.below i (by omega)
  · rw [lz] at hi
    split
    · rename_i e
      by_cases e' : i = at'
      · subst e'; rw [zat, vpl j e, if_neg (by omega)]
      · rw [vz i hi e', vpl j e, vb i hi e' j e]; grind
    · obtain rfl : j = at' := by omega
      by_cases e' : i = j
      · subst e'; rw [zat, vp1, if_pos rfl]
      · rw [vz i hi e', vp1, if_neg e']; grind
  · by_cases e : i < at'
    · rw [if_pos e] at hk
      have hb1 := h.below i e
      rw [vz i (by omega) (by omega), vp0 k (by omega), bi i (by omega), if_neg (by omega), if_neg (by omega), h.front i k e hk]; grind
    · rw [if_neg e] at hk
      obtain rfl : i = at' := by omega
      rw [zat]; exact vp0 k hk
  · rw [lz] at hl
    rw [vz i hl (by omega)]
    by_cases e : k = c
    · subst e; rw [vp1]; grind
    · have : vec p (gr b i) k = 0 := by
        rw [bi i hl, if_neg (by omega)]
        split
        · exact h.low at' k (Nat.le_refl _) (by omega) (by omega)
        · exact h.low i k (by omega) hl (by omega)
      rw [this, vp0 k (by omega)]; grind

/-- At the end the first rows are the reduced ones. -/
theorem Inv2.done (hp : Pr p) {n : Nat} {R a : List (List Int)} {at' : Nat} {ld : Nat → Nat} (h : Inv2 p n R a at' n ld) : IsRed p n R (a.take at') := by
  have hl : (a.take at').length = at' := by have := h.atle; simp; omega
  have hat := h.atle
  have gt : ∀ i, i < at' → gr (a.take at') i = gr a i := fun i hi => gr_take hi (by omega)
  have hld : ∀ i, i < at' → leadZ (gr a i) = ld i := fun i hi =>
    lead_is (h.good i (by omega)) (h.below i hi) (by rw [h.unit i i (by omega) hi, if_pos rfl]; exact one_ne_zero hp.pos.1) (fun k hk => h.front i k hi hk)
  have hln : ∀ i, i < at' → ldN (gr (a.take at') i) = ld i := fun i hi => by rw [gt i hi]; unfold ldN; rw [hld i hi]; simp
  have mt : ∀ i, i < at' → mat p (a.take at') i = mat p a i := fun i hi => by unfold mat; rw [gt i hi]
  have zero : ∀ i, at' ≤ i → i < a.length → ∀ k, mat p a i k = 0 := fun i h1 h2 k => by
    by_cases e : k < n
    · exact h.low i k h1 h2 e
    · exact vec_ge (by rw [(h.good i h2).1]; omega)
  refine ⟨⟨fun i hi => ?_, fun i hi => ?_, ⟨fun i j hi hj => ?_, fun i k hi hk => ?_⟩, fun v => (h.span v).trans ⟨fun hv => hv.mono (fun i hi => ?_), fun hv => hv.mono (fun i hi => ?_)⟩⟩, fun i j hij hj => ?_⟩
  · rw [hl] at hi; rw [gt i hi]; exact h.good i (by omega)
  · rw [hl] at hi; rw [gt i hi, hld i hi]; omega
  · rw [hl] at hi hj; rw [mt i hi, hln j hj]; exact h.unit i j (by omega) hj
  · rw [hl] at hi; rw [mt i hi]; simp only [hln i hi] at hk; exact h.front i k hi hk
  · rw [hl]
    by_cases e : i < at'
    · rw [← mt i e]; exact Span.row _ e
    · exact (Span.zero _ _).congr (fun k => zero i (by omega) hi k)
  · rw [hl] at hi; rw [mt i hi]; exact Span.row _ (by omega)
  · rw [hl] at hj; rw [hln i (by omega), hln j hj]; exact h.asc i j hij hj

/-- Rows in another order. -/
theorem Inv.perm {n : Nat} {R A B : List (List Int)} (h : Inv p n R A) (τ : Nat → Nat) (hl : B.length = A.length) (h1 : ∀ i, i < B.length → τ i < A.length) (h2 : ∀ i j, i < B.length → j < B.length → τ i = τ j → i = j)
    (h3 : ∀ i, i < A.length → ∃ j, j < B.length ∧ τ j = i) (h4 : ∀ i, i < B.length → gr B i = gr A (τ i)) : Inv p n R B := by
  have hm : ∀ i, i < B.length → mat p B i = mat p A (τ i) := fun i hi => by unfold mat; rw [h4 i hi]
  refine ⟨fun i hi => by rw [h4 i hi]; exact h.good _ (h1 i hi), fun i hi => by rw [h4 i hi]; exact h.lead _ (h1 i hi), ⟨fun i j hi hj => ?_, fun i k hi hk => ?_⟩, fun v => (h.span v).trans ⟨fun hv => hv.mono (fun i hi => ?_), fun hv => hv.mono (fun i hi => ?_)⟩⟩
  · rw [hm i hi, h4 j hj, h.rr.unit _ _ (h1 i hi) (h1 j hj)]
    by_cases e : i = j
    · subst e; simp
    · rw [if_neg e, if_neg (fun x => e (h2 i j hi hj x))]
  · rw [hm i hi]; simp only [h4 i hi] at hk; exact h.rr.front _ _ (h1 i hi) hk
  · obtain ⟨j, hj, rfl⟩ := h3 i hi
    rw [← hm j hj]; exact Span.row _ hj
  · rw [hm i hi]; exact Span.row _ (h1 i hi)

/-- Two neighbours change places. -/
def swp (A : List (List Int)) (j : Nat) : List (List Int) := (A.set j (gr A (j - 1))).set (j - 1) (gr A j)

theorem swp_length (A : List (List Int)) (j : Nat) : (swp A j).length = A.length := by simp [swp]
theorem swp_get (A : List (List Int)) {j i : Nat} (hi : i < A.length) : gr (swp A j) i = if j - 1 = i then gr A j else if j = i then gr A (j - 1) else gr A i := by
  rw [swp, gr_set (by simpa using hi), gr_set hi]

theorem Inv.swp {n : Nat} {R A : List (List Int)} (h : Inv p n R A) {j : Nat} (h0 : 0 < j) (hj : j < A.length) : Inv p n R (swp A j) := by
  refine h.perm (fun i => if j - 1 = i then j else if j = i then j - 1 else i) (swp_length _ _) (fun i hi => ?_) (fun i k hi hk e => ?_) (fun i hi => ?_) (fun i hi => ?_)
  · rw [swp_length] at hi; split <;> (try split) <;> omega
  · split at e <;> split at e <;> (try split at e) <;> (try split at e) <;> omega
  · refine ⟨if j - 1 = i then j else if j = i then j - 1 else i, ?_, ?_⟩
    · rw [swp_length]; split <;> (try split) <;> omega
    · repeat' split
      all_goals omega
  · rw [swp_length] at hi
    rw [swp_get _ hi]
    repeat' split
    all_goals rfl
end
end Go.Proofs.YtcdbeepphdfipaaGreatDoor

namespace Go.Proofs.YtcdbeepphdfipaaGreatDoor
open Go.RowKit
set_option linter.unusedVariables false

theorem gi_drop (xs : List Int) (k i : Nat) : gi (xs.drop k) i = gi xs (k + i) := by
  by_cases c : k + i < xs.length
  · rw [gi_lt c, gi_lt (by rw [List.length_drop]; omega), List.getElem_drop]
  · rw [gi_ge (xs := xs.drop k) (by rw [List.length_drop]; omega), gi_ge (xs := xs) (by omega)]
theorem IsI.drop {w : World} {b o n cap : Nat} {xs : List Int} (h : IsI w (.slice (some ⟨b, o, none⟩) n cap) xs) {k : Nat} (hk : k ≤ n) :
    IsI w (.slice (some ⟨b, o + k, none⟩) (n - k) (cap - k)) (xs.drop k) := by
  obtain ⟨ao, cap', e, h1, h2, hm, h3⟩ := h
  simp at e
  obtain ⟨rfl, rfl, rfl⟩ := e
  refine ⟨_, _, by rw [List.length_drop], ⟨by rw [List.length_drop]; omega, fun e => by cases e⟩, by omega, by rw [List.length_drop]; unfold Mid at *; omega, fun i hi => ?_⟩
  rw [List.length_drop] at hi
  obtain ⟨b', o', e, hc⟩ := h3 (k + i) (by omega)
  simp at e
  obtain ⟨rfl, rfl⟩ := e
  exact ⟨b, o + k, rfl, by rw [gi_drop, Nat.add_assoc]; exact hc⟩
end Go.Proofs.YtcdbeepphdfipaaGreatDoor
