/- The reference's way to reduced rows, as plain steps on lists; reduced rows are told by what they span. -/
import Derived.Test.YteoiaicpdmlecaaRedM
namespace Go.Proofs.Yteoiaicpdmlecaa
open Mat
set_option linter.unusedVariables false

theorem ext_gr {A B : List (List Int)} (hl : A.length = B.length) (h : ∀ i, i < A.length → gr A i = gr B i) : A = B := by
  apply List.ext_getElem hl
  intro i h1 h2
  have := h i h1
  rwa [gr_lt h1, gr_lt h2] at this

theorem gr_set {R : List (List Int)} {k : Nat} {y : List Int} {i : Nat} (hi : i < R.length) : gr (R.set k y) i = if k = i then y else gr R i := by
  rw [gr_lt (by simpa using hi), List.getElem_set, gr_lt hi]

theorem gr_take {R : List (List Int)} {k i : Nat} (hi : i < k) (h : i < R.length) : gr (R.take k) i = gr R i := by
  rw [gr_lt (by simp; omega), gr_lt h, List.getElem_take]

theorem gi_replicate (n : Nat) (i : Nat) : gi (List.replicate n 0) i = 0 := by
  unfold gi
  by_cases h : i < n <;> simp [h]

/-- A row with a number of its own times it. -/
def scaleZ (p : Int) (row : List Int) (f : Int) : List Int := addZ p (List.replicate row.length 0) f row

theorem scale_good {p n : Nat} {row : List Int} {f : Int} (h0 : (0 : Int) < p) (h : row.length = n) : GoodRow p n (scaleZ p row f) :=
  GoodRow.add h0 ⟨by simp [h], fun i _ => by rw [gi_replicate]; exact ⟨Int.le_refl _, h0⟩⟩ h _

section
variable {p : Nat} [NeZero p]

/-- out are the reduced rows of R. -/
structure IsRed (p : Nat) [NeZero p] (n : Nat) (R out : List (List Int)) : Prop where
  inv : Inv p n R out
  asc : ∀ i j, i < j → j < out.length → ldN (gr out i) < ldN (gr out j)

theorem IsRed.unique (hp : Pr p) {n : Nat} {R A B : List (List Int)} (h : IsRed p n R A) (h' : IsRed p n R B) : A = B := by
  obtain ⟨hl, hh⟩ := RR.unique hp.pos.1 h.inv.rr h'.inv.rr h.asc h'.asc (fun v => ((h.inv.span v).symm.trans (h'.inv.span v)))
  exact ext_gr hl (fun i hi => vec_inj (h.inv.good i hi) (h'.inv.good i (by omega)) (fun k _ => (hh i hi).2 k))

/-- Leads of rows that are reduced are all different. -/
theorem Inv.lead_ne (hp : Pr p) {n : Nat} {R out : List (List Int)} (h : Inv p n R out) {i j : Nat} (hi : i < out.length) (hj : j < out.length) (hne : i ≠ j) : ldN (gr out i) ≠ ldN (gr out j) := by
  intro e
  have h1 := h.rr.unit i j hi hj
  have h2 := h.rr.unit i i hi hi
  simp only [e] at h2
  rw [h1, if_neg hne] at h2
  simp at h2
  have := hp.pos
  omega

/-! The reference's way. -/

/-- One of the other rows less what it has at the column. -/
def updZ (p : Int) (c : Nat) (prow r : List Int) : List Int := addZ p r (p - gi r c) prow
/-- The first k rows, but for one, are less what they have at the column. -/
def updTo (p : Int) (at' c : Nat) (prow : List Int) (a : List (List Int)) (k : Nat) : List (List Int) := a.mapIdx (fun j r => if j < k ∧ j ≠ at' then updZ p c prow r else r)

theorem updTo_length (q : Int) (at' c : Nat) (prow : List Int) (a : List (List Int)) (k : Nat) : (updTo q at' c prow a k).length = a.length := by simp [updTo]
theorem updTo_get (q : Int) (at' c : Nat) (prow : List Int) (a : List (List Int)) (k : Nat) {i : Nat} (hi : i < a.length) : gr (updTo q at' c prow a k) i = if i < k ∧ i ≠ at' then updZ q c prow (gr a i) else gr a i := by
  rw [gr_lt (by rw [updTo_length]; exact hi), gr_lt hi]
  simp [updTo]

theorem updTo_zero (q : Int) (at' c : Nat) (prow : List Int) (a : List (List Int)) : updTo q at' c prow a 0 = a :=
  ext_gr (updTo_length _ _ _ _ _ _) (fun i hi => by rw [updTo_length] at hi; rw [updTo_get _ _ _ _ _ _ hi, if_neg (by omega)])

theorem updTo_succ (q : Int) (at' c : Nat) (prow : List Int) (a : List (List Int)) (k : Nat) (hk : k < a.length) (hne : k ≠ at') : (updTo q at' c prow a k).set k (updZ q c prow (gr a k)) = updTo q at' c prow a (k + 1) := by
  refine ext_gr (by simp [updTo]) (fun i hi => ?_)
  rw [List.length_set, updTo_length] at hi
  rw [gr_set (by rw [updTo_length]; exact hi), updTo_get _ _ _ _ _ _ hi, updTo_get _ _ _ _ _ _ hi]
  by_cases e : k = i
  · subst e; rw [if_pos rfl, if_pos ⟨by omega, hne⟩]
  · rw [if_neg e]
    by_cases h : i < k ∧ i ≠ at'
    · rw [if_pos h, if_pos ⟨by omega, h.2⟩]
    · rw [if_neg h, if_neg (by omega)]

theorem updTo_skip (q : Int) (c : Nat) (prow : List Int) (a : List (List Int)) (k : Nat) : updTo q k c prow a (k + 1) = updTo q k c prow a k := by
  refine ext_gr (by simp [updTo]) (fun i hi => ?_)
  rw [updTo_length] at hi
  rw [updTo_get _ _ _ _ _ _ hi, updTo_get _ _ _ _ _ _ hi]
  by_cases h : i < k ∧ i ≠ k
  · rw [if_pos h, if_pos (by omega)]
  · rw [if_neg h, if_neg (by omega)]

/-- The rows with the picked one in its place. -/
def swapIn (p : Int) (a : List (List Int)) (at' c q : Nat) : List (List Int) := (a.set q (gr a at')).set at' (scaleZ p (gr a q) (invZ p (gi (gr a q) c)))
/-- A column's work. -/
def colStep (p : Int) (a : List (List Int)) (at' c q : Nat) : List (List Int) := updTo p at' c (scaleZ p (gr a q) (invZ p (gi (gr a q) c))) (swapIn p a at' c q) a.length

/-- What holds ahead of column c. -/
structure Inv2 (p : Nat) [NeZero p] (n : Nat) (R a : List (List Int)) (at' c : Nat) (ld : Nat → Nat) : Prop where
  len : a.length = R.length
  good : GoodRows p n a
  atle : at' ≤ a.length
  below : ∀ i, i < at' → ld i < c
  asc : ∀ i j, i < j → j < at' → ld i < ld j
  unit : ∀ i j, i < a.length → j < at' → vec p (gr a i) (ld j) = if i = j then 1 else 0
  front : ∀ i k, i < at' → k < ld i → vec p (gr a i) k = 0
  low : ∀ i k, at' ≤ i → i < a.length → k < c → vec p (gr a i) k = 0
  span : ∀ v, Span (mat p R) R.length v ↔ Span (mat p a) a.length v

theorem Inv2.start {n : Nat} {R : List (List Int)} (h : GoodRows p n R) : Inv2 p n R R 0 0 (fun _ => 0) :=
  ⟨rfl, h, Nat.zero_le _, fun i hi => by omega, fun i j _ hj => by omega, fun i j _ hj => by omega, fun i k hi => by omega, fun i k _ _ hk => by omega, fun v => Iff.rfl⟩

theorem Inv2.skip {n : Nat} {R a : List (List Int)} {at' c : Nat} {ld : Nat → Nat} (h : Inv2 p n R a at' c ld) (h0 : ∀ j, at' ≤ j → j < a.length → gi (gr a j) c = 0) : Inv2 p n R a at' (c + 1) ld :=
  ⟨h.len, h.good, h.atle, fun i hi => by have := h.below i hi; omega, h.asc, h.unit, h.front, fun i k hi hl hk => by
    by_cases e : k = c
    · subst e; exact (vec_zero (h.good i hl)).2 (h0 i hi hl)
    · exact h.low i k hi hl (by omega), h.span⟩

theorem vec_scale {row : List Int} {f : Int} (k : Nat) : vec p (scaleZ p row f) k = phi p f * vec p row k := by
  unfold scaleZ
  rw [vec_add (by simp)]
  have : vec p (List.replicate row.length 0) k = 0 := by unfold vec; rw [gi_replicate, phi_zero]
  rw [this]; grind

theorem Inv2.pick (hp : Pr p) {n : Nat} {R a : List (List Int)} {at' c : Nat} {ld : Nat → Nat} (h : Inv2 p n R a at' c ld) (hc : c < n) {q : Nat} (h1 : at' ≤ q) (h2 : q < a.length) (h3 : gi (gr a q) c ≠ 0) :
    Inv2 p n R (colStep p a at' c q) (at' + 1) (c + 1) (fun i => if i < at' then ld i else c) := by
  have hpos := hp.pos
  have gq := h.good q h2
  have hrange := gq.2 c hc
  have hinv := phi_inv hp (x := gi (gr a q) c) (by omega) hrange.2
  obtain ⟨prow, hpr⟩ : ∃ x, x = scaleZ p (gr a q) (invZ p (gi (gr a q) c)) := ⟨_, rfl⟩
  have gp : GoodRow p n prow := by rw [hpr]; exact scale_good (by omega) gq.1
  have vp : ∀ k, vec p prow k = phi p (invZ p (gi (gr a q) c)) * vec p (gr a q) k := fun k => by rw [hpr]; exact vec_scale k
  have vp1 : vec p prow c = 1 := by
    rw [vp]; change _ * phi p (gi (gr a q) c) = 1; grind
  have vpr : ∀ k, vec p (gr a q) k = vec p (gr a q) c * vec p prow k := fun k => by
    rw [vp]; change _ = phi p (gi (gr a q) c) * _; grind
  have vp0 : ∀ k, k < c → vec p prow k = 0 := fun k hk => by rw [vp, h.low q k h1 h2 hk]; grind
  have vpl : ∀ j, j < at' → vec p prow (ld j) = 0 := fun j hj => by rw [vp, h.unit q j h2 hj, if_neg (by omega)]; grind
  obtain ⟨b, hb⟩ : ∃ b, b = swapIn p a at' c q := ⟨_, rfl⟩
  have lb : b.length = a.length := by rw [hb]; simp [swapIn]
  have bi : ∀ i, i < a.length → gr b i = if at' = i then prow else if q = i then gr a at' else gr a i := fun i hi => by
    rw [hb, swapIn, gr_set (by simpa using hi), gr_set hi, ← hpr]
  obtain ⟨z, hz⟩ : ∃ z, z = colStep p a at' c q := ⟨_, rfl⟩
  have lz : z.length = a.length := by rw [hz, colStep, updTo_length, ← hb, lb]
  have gb : ∀ i, i < a.length → GoodRow p n (gr b i) := fun i hi => by
    rw [bi i hi]; split
    · exact gp
    · split
      · exact h.good _ (by omega)
      · exact h.good _ hi
  have zi : ∀ i, i < a.length → i ≠ at' → gr z i = updZ p c prow (gr b i) := fun i hi hne => by
    rw [hz, colStep, ← hb, ← hpr, updTo_get _ _ _ _ _ _ (by omega), if_pos ⟨hi, hne⟩]
  have zat : gr z at' = prow := by
    rw [hz, colStep, ← hb, ← hpr, updTo_get _ _ _ _ _ _ (by omega), if_neg (by omega), bi _ (by omega), if_pos rfl]
  have vz : ∀ i, i < a.length → i ≠ at' → ∀ k, vec p (gr z i) k = vec p (gr b i) k - vec p (gr b i) c * vec p prow k := fun i hi hne k => by
    rw [zi i hi hne]
    unfold updZ
    rw [vec_add (by rw [(gb i hi).1, gp.1]), phi_sub, phi_self]
    change _ + (0 - vec p (gr b i) c) * _ = _
    grind
  have gz : ∀ i, i < a.length → GoodRow p n (gr z i) := fun i hi => by
    by_cases e : i = at'
    · subst e; rw [zat]; exact gp
    · rw [zi i hi e]; exact (gb i hi).add (by omega) gp.1 _
  have vb : ∀ i, i < a.length → i ≠ at' → ∀ j, j < at' → vec p (gr b i) (ld j) = if i = j then 1 else 0 := fun i hi hne j hj => by
    rw [bi i hi, if_neg (fun e => hne e.symm)]
    split
    · rename_i e; subst e
      rw [h.unit at' j (by omega) hj, if_neg (by omega), if_neg (by omega)]
    · exact h.unit i j hi hj
  rw [← hz]
  have down : ∀ v, Span (mat p z) z.length v → Span (mat p a) a.length v := fun v hv => hv.mono (fun i hi => by
    rw [lz] at hi
    have sq : Span (mat p a) a.length (vec p prow) := ((Span.row (mat p a) h2).smul (phi p (invZ p (gi (gr a q) c)))).congr (fun k => vp k)
    by_cases e : i = at'
    · subst e; change Span _ _ (vec p (gr z i)); rw [zat]; exact sq
    · have sb : Span (mat p a) a.length (vec p (gr b i)) := by
        rw [bi i hi, if_neg (fun e' => e e'.symm)]
        split
        · exact Span.row (mat p a) (i := at') (by omega)
        · exact Span.row (mat p a) hi
      exact (sb.sub (sq.smul (vec p (gr b i) c))).congr (fun k => vz i hi e k))
  have up : ∀ v, Span (mat p a) a.length v → Span (mat p z) z.length v := fun v hv => hv.mono (fun i hi => by
    have sp : Span (mat p z) z.length (vec p prow) := by
      have := Span.row (mat p z) (m := z.length) (i := at') (by omega)
      change Span _ _ (vec p (gr z at')) at this
      rwa [zat] at this
    have sz : ∀ j, j < a.length → j ≠ at' → Span (mat p z) z.length (vec p (gr b j)) := fun j hj hne =>
      ((Span.row (mat p z) (m := z.length) (i := j) (by omega)).add (sp.smul (vec p (gr b j) c))).congr (fun k => by
        change _ = vec p (gr z j) k + _; rw [vz j hj hne]; grind)
    change Span _ _ (vec p (gr a i))
    by_cases e : i = q
    · subst e
      exact (sp.smul (vec p (gr a i) c)).congr (fun k => vpr k)
    · by_cases e' : i = at'
      · subst e'
        have := sz q h2 (fun x => e x.symm)
        rwa [bi q h2, if_neg e, if_pos rfl] at this
      · have := sz i hi e'
        rwa [bi i hi, if_neg (fun x => e' x.symm), if_neg (fun x => e x.symm)] at this)
  refine ⟨by rw [lz, h.len], fun i hi => gz i (by omega), by omega, fun i hi => ?_, fun i j hij hj => ?_, fun i j hi hj => ?_, fun i k hi hk => ?_, fun i k hi hl hk => ?_, fun v => (h.span v).trans ⟨up v, down v⟩⟩
  · split
    · rename_i e; have := h.below i e; omega
    · omega
  · rw [if_pos (show i < at' by omega)]
    split
    · rename_i e; exact h.asc i j hij e
    · exact h.below i (by omega)
  · rw [lz] at hi
    split
    · rename_i e
      by_cases e' : i = at'
      · subst e'; rw [zat, vpl j e, if_neg (by omega)]
      · rw [vz i hi e', vpl j e, vb i hi e' j e]; grind
    · obtain rfl : j = at' := by omega
      by_cases e' : i = j
      · subst e'; rw [zat, vp1, if_pos rfl]
      · rw [vz i hi e', vp1, if_neg e']; grind
  · by_cases e : i < at'
    · rw [if_pos e] at hk
      have hb1 := h.below i e
      rw [vz i (by omega) (by omega), vp0 k (by omega), bi i (by omega), if_neg (by omega), if_neg (by omega), h.front i k e hk]; grind
    · rw [if_neg e] at hk
      obtain rfl : i = at' := by omega
      rw [zat]; exact vp0 k hk
  · rw [lz] at hl
    rw [vz i hl (by omega)]
    by_cases e : k = c
    · subst e; rw [vp1]; grind
    · have : vec p (gr b i) k = 0 := by
        rw [bi i hl, if_neg (by omega)]
        split
        · exact h.low at' k (Nat.le_refl _) (by omega) (by omega)
        · exact h.low i k (by omega) hl (by omega)
      rw [this, vp0 k (by omega)]; grind

/-- At the end the first rows are the reduced ones. -/
theorem Inv2.done (hp : Pr p) {n : Nat} {R a : List (List Int)} {at' : Nat} {ld : Nat → Nat} (h : Inv2 p n R a at' n ld) : IsRed p n R (a.take at') := by
  have hl : (a.take at').length = at' := by have := h.atle; simp; omega
  have hat := h.atle
  have gt : ∀ i, i < at' → gr (a.take at') i = gr a i := fun i hi => gr_take hi (by omega)
  have hld : ∀ i, i < at' → leadZ (gr a i) = ld i := fun i hi =>
    lead_is (h.good i (by omega)) (h.below i hi) (by rw [h.unit i i (by omega) hi, if_pos rfl]; exact one_ne_zero hp.pos.1) (fun k hk => h.front i k hi hk)
  have hln : ∀ i, i < at' → ldN (gr (a.take at') i) = ld i := fun i hi => by rw [gt i hi]; unfold ldN; rw [hld i hi]; simp
  have mt : ∀ i, i < at' → mat p (a.take at') i = mat p a i := fun i hi => by unfold mat; rw [gt i hi]
  have zero : ∀ i, at' ≤ i → i < a.length → ∀ k, mat p a i k = 0 := fun i h1 h2 k => by
    by_cases e : k < n
    · exact h.low i k h1 h2 e
    · exact vec_ge (by rw [(h.good i h2).1]; omega)
  refine ⟨⟨fun i hi => ?_, fun i hi => ?_, ⟨fun i j hi hj => ?_, fun i k hi hk => ?_⟩, fun v => (h.span v).trans ⟨fun hv => hv.mono (fun i hi => ?_), fun hv => hv.mono (fun i hi => ?_)⟩⟩, fun i j hij hj => ?_⟩
  · rw [hl] at hi; rw [gt i hi]; exact h.good i (by omega)
  · rw [hl] at hi; rw [gt i hi, hld i hi]; omega
  · rw [hl] at hi hj; rw [mt i hi, hln j hj]; exact h.unit i j (by omega) hj
  · rw [hl] at hi; rw [mt i hi]; simp only [hln i hi] at hk; exact h.front i k hi hk
  · rw [hl]
    by_cases e : i < at'
    · rw [← mt i e]; exact Span.row _ e
    · exact (Span.zero _ _).congr (fun k => zero i (by omega) hi k)
  · rw [hl] at hi; rw [mt i hi]; exact Span.row _ (by omega)
  · rw [hl] at hj; rw [hln i (by omega), hln j hj]; exact h.asc i j hij hj

/-- Rows in another order. -/
theorem Inv.perm {n : Nat} {R A B : List (List Int)} (h : Inv p n R A) (τ : Nat → Nat) (hl : B.length = A.length) (h1 : ∀ i, i < B.length → τ i < A.length) (h2 : ∀ i j, i < B.length → j < B.length → τ i = τ j → i = j)
    (h3 : ∀ i, i < A.length → ∃ j, j < B.length ∧ τ j = i) (h4 : ∀ i, i < B.length → gr B i = gr A (τ i)) : Inv p n R B := by
  have hm : ∀ i, i < B.length → mat p B i = mat p A (τ i) := fun i hi => by unfold mat; rw [h4 i hi]
  refine ⟨fun i hi => by rw [h4 i hi]; exact h.good _ (h1 i hi), fun i hi => by rw [h4 i hi]; exact h.lead _ (h1 i hi), ⟨fun i j hi hj => ?_, fun i k hi hk => ?_⟩, fun v => (h.span v).trans ⟨fun hv => hv.mono (fun i hi => ?_), fun hv => hv.mono (fun i hi => ?_)⟩⟩
  · rw [hm i hi, h4 j hj, h.rr.unit _ _ (h1 i hi) (h1 j hj)]
    by_cases e : i = j
    · subst e; simp
    · rw [if_neg e, if_neg (fun x => e (h2 i j hi hj x))]
  · rw [hm i hi]; simp only [h4 i hi] at hk; exact h.rr.front _ _ (h1 i hi) hk
  · obtain ⟨j, hj, rfl⟩ := h3 i hi
    rw [← hm j hj]; exact Span.row _ hj
  · rw [hm i hi]; exact Span.row _ (h1 i hi)

/-- Two neighbours change places. -/
def swp (A : List (List Int)) (j : Nat) : List (List Int) := (A.set j (gr A (j - 1))).set (j - 1) (gr A j)

theorem swp_length (A : List (List Int)) (j : Nat) : (swp A j).length = A.length := by simp [swp]
theorem swp_get (A : List (List Int)) {j i : Nat} (hi : i < A.length) : gr (swp A j) i = if j - 1 = i then gr A j else if j = i then gr A (j - 1) else gr A i := by
  rw [swp, gr_set (by simpa using hi), gr_set hi]

theorem Inv.swp {n : Nat} {R A : List (List Int)} (h : Inv p n R A) {j : Nat} (h0 : 0 < j) (hj : j < A.length) : Inv p n R (swp A j) := by
  refine h.perm (fun i => if j - 1 = i then j else if j = i then j - 1 else i) (swp_length _ _) (fun i hi => ?_) (fun i k hi hk e => ?_) (fun i hi => ?_) (fun i hi => ?_)
  · rw [swp_length] at hi; split <;> (try split) <;> omega
  · split at e <;> split at e <;> (try split at e) <;> (try split at e) <;> omega
  · refine ⟨if j - 1 = i then j else if j = i then j - 1 else i, ?_, ?_⟩
    · rw [swp_length]; split <;> (try split) <;> omega
    · repeat' split
      all_goals omega
  · rw [swp_length] at hi
    rw [swp_get _ hi]
    repeat' split
    all_goals rfl
end
end Go.Proofs.Yteoiaicpdmlecaa
