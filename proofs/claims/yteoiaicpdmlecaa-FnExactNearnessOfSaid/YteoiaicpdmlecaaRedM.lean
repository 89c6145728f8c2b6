/- The program's way to reduced rows, as plain functions on lists, and what holds of it. -/
import Derived.Test.YteoiaicpdmlecaaTabM
import Derived.Test.YteoiaicpdmlecaaIdxM
namespace Go.Proofs.Yteoiaicpdmlecaa
open Mat
set_option linter.unusedVariables false

/-- A row of n rests. -/
def GoodRow (p : Int) (n : Nat) (x : List Int) : Prop := x.length = n ∧ ∀ i, i < n → 0 ≤ gi x i ∧ gi x i < p
/-- All rows are rows of n rests. -/
def GoodRows (p : Int) (n : Nat) (R : List (List Int)) : Prop := ∀ i, i < R.length → GoodRow p n (gr R i)

/-- The index of the first number that is not 0. -/
def ldN (x : List Int) : Nat := (leadZ x).toNat

theorem gi_ge {xs : List Int} {i : Nat} (h : xs.length ≤ i) : gi xs i = 0 := by simp [gi, h]
theorem gr_ge {xs : List (List Int)} {i : Nat} (h : xs.length ≤ i) : gr xs i = [] := by simp [gr, h]

theorem addZ_get (p : Int) (xs : List Int) (b : Int) (ys : List Int) (hl : xs.length = ys.length) {i : Nat} (hi : i < xs.length) : gi (addZ p xs b ys) i = (gi xs i + b * gi ys i) % p := by
  unfold addZ
  rw [addTo_get _ _ _ _ _ hi, if_pos (by omega)]

theorem GoodRow.add {p : Int} {n : Nat} {x y : List Int} (hp : 0 < p) (hx : GoodRow p n x) (hy : y.length = n) (b : Int) : GoodRow p n (addZ p x b y) := by
  refine ⟨by rw [addZ_length]; exact hx.1, fun i hi => ?_⟩
  rw [addZ_get _ _ _ _ (by rw [hx.1, hy]) (by rw [hx.1]; exact hi)]
  exact ⟨Int.emod_nonneg _ (by omega), Int.emod_lt_of_pos _ hp⟩

section
variable {p : Nat} [NeZero p]

/-- A list as a vector over the rests. -/
def vec (p : Nat) [NeZero p] (xs : List Int) : Nat → Fin p := fun k => phi p (gi xs k)
/-- Rows as vectors. -/
def mat (p : Nat) [NeZero p] (R : List (List Int)) : Nat → Nat → Fin p := fun i => vec p (gr R i)

theorem vec_ge {xs : List Int} {k : Nat} (h : xs.length ≤ k) : vec p xs k = 0 := by unfold vec; rw [gi_ge h, phi_zero]

theorem vec_add {xs ys : List Int} {b : Int} (hl : xs.length = ys.length) (k : Nat) : vec p (addZ p xs b ys) k = vec p xs k + phi p b * vec p ys k := by
  by_cases h : k < xs.length
  · unfold vec
    rw [addZ_get _ _ _ _ hl h, phi_emod, phi_add, phi_mul]
  · rw [vec_ge (by rw [addZ_length]; omega), vec_ge (by omega), vec_ge (by omega)]; grind

theorem vec_zero {n : Nat} {x : List Int} (h : GoodRow p n x) {k : Nat} : vec p x k = 0 ↔ gi x k = 0 := by
  by_cases hk : k < n
  · exact phi_eq_zero (h.2 k hk).1 (h.2 k hk).2
  · rw [vec_ge (by rw [h.1]; omega), gi_ge (by rw [h.1]; omega)]; simp

theorem vec_inj {n : Nat} {x y : List Int} (hx : GoodRow p n x) (hy : GoodRow p n y) (h : ∀ k, k < n → vec p x k = vec p y k) : x = y := by
  refine ext_gi (by rw [hx.1, hy.1]) (fun i hi => ?_)
  rw [hx.1] at hi
  exact phi_eq_of_range (hx.2 i hi).1 (hx.2 i hi).2 (hy.2 i hi).1 (hy.2 i hi).2 (h i hi)

theorem nzB_false {x : Int} : nzB x = false ↔ x = 0 := by simp [nzB]
theorem nzB_true {x : Int} : nzB x = true ↔ x ≠ 0 := by simp [nzB]

/-- No number is not 0. -/
theorem lead_none {n : Nat} {x : List Int} (h : GoodRow p n x) (hl : leadZ x < 0) (k : Nat) : vec p x k = 0 := by
  have h1 := fiZ_ge nzB x
  rw [vec_zero h]
  by_cases hk : k < x.length
  · exact nzB_false.1 (fiZ_all.1 (show fiZ nzB x = -1 by have : leadZ x = fiZ nzB x := rfl; omega) k hk)
  · exact gi_ge (by omega)

/-- The first number that is not 0. -/
theorem lead_some {n : Nat} {x : List Int} (h : GoodRow p n x) (hl : 0 ≤ leadZ x) : ldN x < n ∧ vec p x (ldN x) ≠ 0 ∧ ∀ k, k < ldN x → vec p x k = 0 := by
  have h1 := fiZ_at (g := nzB) (xs := x) (k := ldN x) (by show leadZ x = _; unfold ldN; omega)
  rw [h.1] at h1
  exact ⟨h1.1, fun e => nzB_true.1 h1.2.1 ((vec_zero h).1 e), fun k hk => (vec_zero h).2 (nzB_false.1 (h1.2.2 k hk))⟩

theorem lead_is {n : Nat} {x : List Int} (h : GoodRow p n x) {l : Nat} (hl : l < n) (h1 : vec p x l ≠ 0) (h2 : ∀ k, k < l → vec p x k = 0) : leadZ x = l :=
  fiZ_found (g := nzB) (by rw [h.1]; exact hl) (nzB_true.2 (fun e => h1 ((vec_zero h).2 e))) (fun j hj => nzB_false.2 ((vec_zero h).1 (h2 j hj)))

theorem phi_inv (hp : Pr p) {x : Int} (h1 : 1 ≤ x) (h2 : x < p) : phi p x * phi p (invZ p x) = 1 := by
  have := invZ_spec (p := (p : Int)) (x := x) (prB_iff.2 (by rcases hp with h | h | h | h <;> omega)) h1 h2
  rw [← phi_mul, ← phi_one]
  have h3 := hp.pos
  exact phi_congr (by rw [this.2.2, Int.emod_eq_of_lt (by omega) (by omega)])

/-! The program's way. -/

/-- A row less what the others tell. -/
def elimL (p : Int) (row : List Int) (out : List (List Int)) : List Int := out.foldl (fun r x => addZ p r (-(gi r (ldN x))) x) row

theorem elimL_snoc (q : Int) (row : List Int) (out : List (List Int)) (x : List Int) : elimL q row (out ++ [x]) = addZ q (elimL q row out) (-(gi (elimL q row out) (ldN x))) x := by
  simp [elimL, List.foldl_append]

/-- What holds of the rows so far. -/
structure Inv (p : Nat) [NeZero p] (n : Nat) (R out : List (List Int)) : Prop where
  good : GoodRows p n out
  lead : ∀ i, i < out.length → 0 ≤ leadZ (gr out i)
  rr : RR (mat p out) out.length (fun i => ldN (gr out i))
  span : ∀ v, Span (mat p R) R.length v ↔ Span (mat p out) out.length v

theorem Inv.empty (n : Nat) : Inv p n [] [] :=
  ⟨fun i hi => by simp at hi, fun i hi => by simp at hi, ⟨fun i j hi => by simp at hi, fun i k hi => by simp at hi⟩, fun v => Iff.rfl⟩

theorem elim_inv {n : Nat} {R out : List (List Int)} {row : List Int} (h0 : (0 : Int) < p) (h : Inv p n R out) (hr : GoodRow p n row) (k : Nat) (hk : k ≤ out.length) :
    GoodRow p n (elimL p row (out.take k)) ∧ (∀ i, i < k → vec p (elimL p row (out.take k)) (ldN (gr out i)) = 0) ∧
      Span (mat p out) out.length (fun t => vec p row t - vec p (elimL p row (out.take k)) t) := by
  induction k with
  | zero =>
    refine ⟨by simpa [elimL] using hr, fun i hi => by omega, (Span.zero _ _).congr (fun t => ?_)⟩
    simp only [List.take_zero, elimL, List.foldl_nil]; grind
  | succ k ih =>
    obtain ⟨h1, h2, h3⟩ := ih (by omega)
    have hx := h.good k (by omega)
    rw [take_succ_gr (by omega), elimL_snoc]
    have hlen : (elimL p row (out.take k)).length = (gr out k).length := by rw [h1.1, hx.1]
    refine ⟨h1.add h0 hx.1 _, fun i hi => ?_, (h3.add ((Span.row (mat p out) (i := k) (by omega)).smul (vec p (elimL p row (out.take k)) (ldN (gr out k))))).congr (fun t => ?_)⟩
    · rw [vec_add hlen, phi_neg]
      have hu := h.rr.unit k i (by omega) (by omega)
      change vec p (gr out k) (ldN (gr out i)) = _ at hu
      change _ + -vec p (elimL p row (out.take k)) (ldN (gr out k)) * _ = 0
      by_cases e : k = i
      · subst e
        rw [if_pos rfl] at hu
        rw [hu]; grind
      · rw [if_neg e] at hu
        rw [hu, h2 i (by omega)]; grind
    · rw [vec_add hlen, phi_neg]
      change _ - (_ + -vec p (elimL p row (out.take k)) (ldN (gr out k)) * vec p (gr out k) t) = _ + _ * vec p (gr out k) t
      grind

/-- A row with a leading 1. -/
def normZ (p : Int) (r : List Int) : List Int := addZ p r (invZ p (gi r (ldN r)) - 1) r

/-- One row more. -/
def redStep (p : Int) (out : List (List Int)) (row : List Int) : List (List Int) :=
  if leadZ (elimL p row out) < 0 then out else
    out.map (fun x => addZ p x (-(gi x (ldN (elimL p row out)))) (normZ p (elimL p row out))) ++ [normZ p (elimL p row out)]

theorem gr_map {R : List (List Int)} {f : List Int → List Int} {i : Nat} (hi : i < R.length) : gr (R.map f) i = f (gr R i) := by
  rw [gr_lt (by simpa using hi), gr_lt hi]; simp

theorem gr_snoc_lt {R : List (List Int)} {x : List Int} {i : Nat} (h : i < R.length) : gr (R ++ [x]) i = gr R i := by
  rw [gr_lt (by simp; omega), gr_lt h, List.getElem_append_left h]

theorem gr_snoc_eq {R : List (List Int)} {x : List Int} {i : Nat} (h : i = R.length) : gr (R ++ [x]) i = x := by
  rw [gr_lt (by simp; omega)]; simp [h]

theorem norm_facts (hp : Pr p) {n : Nat} {r : List Int} (hr : GoodRow p n r) (hl : 0 ≤ leadZ r) :
    GoodRow p n (normZ p r) ∧ vec p (normZ p r) (ldN r) = 1 ∧ (∀ k, vec p (normZ p r) k = phi p (invZ p (gi r (ldN r))) * vec p r k) ∧ (∀ k, vec p r k = vec p r (ldN r) * vec p (normZ p r) k) ∧ leadZ (normZ p r) = ldN r := by
  have h3 := hp.pos
  obtain ⟨a, b, c⟩ := lead_some hr hl
  have hg : gi r (ldN r) ≠ 0 := fun e => b ((vec_zero hr).2 e)
  have hrange := hr.2 _ a
  have hinv := phi_inv hp (x := gi r (ldN r)) (by omega) hrange.2
  have e : ∀ k, vec p (normZ p r) k = phi p (invZ p (gi r (ldN r))) * vec p r k := by
    intro k
    unfold normZ
    rw [vec_add rfl, phi_sub, phi_one]; grind
  have e1 : vec p (normZ p r) (ldN r) = 1 := by
    rw [e]
    change _ * phi p (gi r (ldN r)) = 1
    grind
  have hgood : GoodRow p n (normZ p r) := hr.add (by omega) hr.1 _
  refine ⟨hgood, e1, e, fun k => ?_, lead_is hgood a (by rw [e1]; exact one_ne_zero h3.1) (fun k hk => by rw [e, c k hk]; grind)⟩
  rw [e]
  change _ = phi p (gi r (ldN r)) * _
  grind

theorem Inv.step (hp : Pr p) {n : Nat} {R out : List (List Int)} {row : List Int} (h : Inv p n R out) (hr : GoodRow p n row) : Inv p n (R ++ [row]) (redStep p out row) := by
  have hpos := hp.pos
  obtain ⟨g1, z1, s1⟩ := elim_inv (by omega) h hr out.length (Nat.le_refl _)
  rw [List.take_length] at g1 z1 s1
  obtain ⟨r1, hr1⟩ : ∃ r1, r1 = elimL p row out := ⟨_, rfl⟩
  have eR : ∀ i, i < R.length → mat p (R ++ [row]) i = mat p R i := fun i hi => by unfold mat; rw [gr_snoc_lt hi]
  have eL : mat p (R ++ [row]) R.length = vec p row := by unfold mat; rw [gr_snoc_eq rfl]
  have up : ∀ v, Span (mat p R) R.length v → Span (mat p (R ++ [row])) (R ++ [row]).length v := fun v hv => hv.mono (fun i hi => by
    rw [← eR i hi]; exact Span.row _ (by simp; omega))
  unfold redStep
  rw [← hr1] at g1 z1 s1 ⊢
  split
  · rename_i hneg
    have hz := lead_none g1 hneg
    refine ⟨h.good, h.lead, h.rr, fun v => ⟨fun hv => hv.mono (fun i hi => ?_), fun hv => up v ((h.span v).2 hv)⟩⟩
    simp at hi
    by_cases e : i < R.length
    · rw [eR i e]; exact (h.span _).1 (Span.row _ e)
    · obtain rfl : i = R.length := by omega
      rw [eL]
      exact s1.congr (fun t => by rw [hz t]; grind)
  · rename_i hneg
    have hl : 0 ≤ leadZ r1 := by omega
    obtain ⟨a, b, c⟩ := lead_some g1 hl
    obtain ⟨g2, one, e2, e3, ld2⟩ := norm_facts hp g1 hl
    obtain ⟨r2, hr2⟩ : ∃ r2, r2 = normZ p r1 := ⟨_, rfl⟩
    obtain ⟨l, hL⟩ : ∃ l, l = ldN r1 := ⟨_, rfl⟩
    rw [← hr2] at g2 one e2 e3 ld2 ⊢
    rw [← hL] at a b c one e3 ld2 ⊢
    have zr2 : ∀ i, i < out.length → vec p r2 (ldN (gr out i)) = 0 := fun i hi => by rw [e2, z1 i hi]; grind
    have fr2 : ∀ k, k < l → vec p r2 k = 0 := fun k hk => by rw [e2, c k hk]; grind
    -- the rows that were there
    obtain ⟨f, hf⟩ : ∃ f : List Int → List Int, f = fun x => addZ p x (-(gi x l)) r2 := ⟨_, rfl⟩
    rw [← hf]
    have hfx : ∀ i, i < out.length → GoodRow p n (f (gr out i)) ∧ (∀ k, vec p (f (gr out i)) k = vec p (gr out i) k - vec p (gr out i) l * vec p r2 k) := fun i hi => by
      have hx := h.good i hi
      rw [hf]
      refine ⟨hx.add (by omega) g2.1 _, fun k => ?_⟩
      show vec p (addZ p _ _ r2) k = _
      rw [vec_add (by rw [hx.1, g2.1]), phi_neg]
      change _ + -vec p (gr out i) l * _ = _
      grind
    have hxl : ∀ i, i < out.length → ∀ k, k < ldN (gr out i) → vec p (f (gr out i)) k = 0 := fun i hi k hk => by
      rw [(hfx i hi).2]
      have h0 : vec p (gr out i) k = 0 := h.rr.front i k hi hk
      rw [h0]
      by_cases hkl : k < l
      · rw [fr2 k hkl]; grind
      · have h1 : vec p (gr out i) l = 0 := h.rr.front i l hi (by omega)
        rw [h1]; grind
    have hx1 : ∀ i j, i < out.length → j < out.length → vec p (f (gr out i)) (ldN (gr out j)) = if i = j then 1 else 0 := fun i j hi hj => by
      rw [(hfx i hi).2, zr2 j hj]
      have hu : vec p (gr out i) (ldN (gr out j)) = _ := h.rr.unit i j hi hj
      rw [hu]; grind
    have hld : ∀ i, i < out.length → leadZ (f (gr out i)) = ldN (gr out i) := fun i hi =>
      lead_is (hfx i hi).1 (lead_some (h.good i hi) (h.lead i hi)).1 (by rw [hx1 i i hi hi, if_pos rfl]; exact one_ne_zero hpos.1) (hxl i hi)
    have gA : ∀ i, i < out.length → gr (out.map f ++ [r2]) i = f (gr out i) := fun i hi => by rw [gr_snoc_lt (by simpa using hi), gr_map hi]
    have gB : gr (out.map f ++ [r2]) out.length = r2 := gr_snoc_eq (by simp)
    have hlen : (out.map f ++ [r2]).length = out.length + 1 := by simp
    have mA : ∀ i, i < out.length → mat p (out.map f ++ [r2]) i = vec p (f (gr out i)) := fun i hi => by unfold mat; rw [gA i hi]
    have mB : mat p (out.map f ++ [r2]) out.length = vec p r2 := by unfold mat; rw [gB]
    have sr2 : Span (mat p (out.map f ++ [r2])) (out.length + 1) (vec p r2) := by rw [← mB]; exact Span.row _ (by omega)
    have down : ∀ v, Span (mat p out) out.length v → Span (mat p (out.map f ++ [r2])) (out.length + 1) v := fun v hv => hv.mono (fun i hi => by
      have hx : Span (mat p (out.map f ++ [r2])) (out.length + 1) (vec p (f (gr out i))) := by rw [← mA i hi]; exact Span.row _ (by omega)
      exact (hx.add (sr2.smul (vec p (gr out i) l))).congr (fun k => by
        rw [(hfx i hi).2]; change vec p (gr out i) k = _; grind))
    have srow1 : Span (mat p (R ++ [row])) (R ++ [row]).length (vec p r1) := by
      have q1 : Span (mat p (R ++ [row])) (R ++ [row]).length (vec p row) := by rw [← eL]; exact Span.row _ (by simp)
      exact (q1.sub (up _ ((h.span _).2 s1))).congr (fun k => by grind)
    have srow2 : Span (mat p (R ++ [row])) (R ++ [row]).length (vec p r2) := (srow1.smul (phi p (invZ p (gi r1 l)))).congr (fun k => by rw [e2, ← hL])
    refine ⟨fun i hi => ?_, fun i hi => ?_, ⟨fun i j hi hj => ?_, fun i k hi hk => ?_⟩, fun v => ⟨fun hv => ?_, fun hv => ?_⟩⟩
    · rw [hlen] at hi
      by_cases e : i < out.length
      · rw [gA i e]; exact (hfx i e).1
      · obtain rfl : i = out.length := by omega
        rw [gB]; exact g2
    · rw [hlen] at hi
      by_cases e : i < out.length
      · rw [gA i e, hld i e]; omega
      · obtain rfl : i = out.length := by omega
        rw [gB, ld2]; omega
    · rw [hlen] at hi hj
      have lA : ∀ j, j < out.length → ldN (gr (out.map f ++ [r2]) j) = ldN (gr out j) := fun j hj => by rw [gA j hj]; show (leadZ _).toNat = _; rw [hld j hj]; simp
      have lB : ldN (gr (out.map f ++ [r2]) out.length) = l := by rw [gB]; show (leadZ _).toNat = _; rw [ld2]; simp
      by_cases e : i < out.length
      · rw [mA i e]
        by_cases e' : j < out.length
        · rw [lA j e']; exact hx1 i j e e'
        · obtain rfl : j = out.length := by omega
          rw [lB, (hfx i e).2, one, if_neg (by omega)]; grind
      · obtain rfl : i = out.length := by omega
        rw [mB]
        by_cases e' : j < out.length
        · rw [lA j e', zr2 j e', if_neg (by omega)]
        · obtain rfl : j = out.length := by omega
          rw [lB, one, if_pos rfl]
    · rw [hlen] at hi
      by_cases e : i < out.length
      · rw [mA i e]
        have : ldN (gr (out.map f ++ [r2]) i) = ldN (gr out i) := by rw [gA i e]; show (leadZ _).toNat = _; rw [hld i e]; simp
        exact hxl i e k (by rw [← this]; exact hk)
      · obtain rfl : i = out.length := by omega
        rw [mB]
        have : ldN (gr (out.map f ++ [r2]) out.length) = l := by rw [gB]; show (leadZ _).toNat = _; rw [ld2]; simp
        exact fr2 k (by rw [← this]; exact hk)
    · rw [hlen]
      refine hv.mono (fun i hi => ?_)
      simp at hi
      by_cases e : i < R.length
      · rw [eR i e]; exact down _ ((h.span _).1 (Span.row _ e))
      · obtain rfl : i = R.length := by omega
        rw [eL]
        exact ((down _ s1).add (sr2.smul (vec p r1 l))).congr (fun k => by rw [← e3 k]; grind)
    · rw [hlen] at hv
      refine hv.mono (fun i hi => ?_)
      by_cases e : i < out.length
      · rw [mA i e]
        have q := up _ ((h.span _).2 (Span.row (mat p out) e))
        exact (q.sub (srow2.smul (vec p (gr out i) l))).congr (fun k => by rw [(hfx i e).2]; rfl)
      · obtain rfl : i = out.length := by omega
        rw [mB]; exact srow2

/-- All rows, one after the other. -/
def redAll (p : Int) (rows : List (List Int)) : List (List Int) := rows.foldl (redStep p) []

theorem redAll_snoc (q : Int) (rows : List (List Int)) (x : List Int) : redAll q (rows ++ [x]) = redStep q (redAll q rows) x := by simp [redAll, List.foldl_append]

theorem redAll_inv (hp : Pr p) {n : Nat} {rows : List (List Int)} (hr : GoodRows p n rows) (k : Nat) (hk : k ≤ rows.length) : Inv p n (rows.take k) (redAll p (rows.take k)) := by
  induction k with
  | zero => exact Inv.empty n
  | succ k ih =>
    rw [take_succ_gr (by omega), redAll_snoc]
    exact (ih (by omega)).step hp (hr k (by omega))
end
end Go.Proofs.Yteoiaicpdmlecaa
