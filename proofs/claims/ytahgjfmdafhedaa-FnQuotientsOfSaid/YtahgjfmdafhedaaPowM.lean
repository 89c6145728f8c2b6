/- Codes of powers and of quotients: their rows; they are valid and best. Plain. -/
import Derived.Test.YtahgjfmdafhedaaVand
namespace Go.Proofs.Ytahgjfmdafhedaa
open Go.RowKit Mat
set_option linter.unusedVariables false

/-- The rest of a power. -/
def pwZ (p x : Int) : Nat → Int
  | 0 => 1
  | i + 1 => pwZ p x i * x % p
/-- Row i of the powers of points. -/
def powL (p : Int) (xs : List Int) (i : Nat) : List Int := xs.map (fun x => pwZ p x i)
/-- The first k rows. -/
def powR (p : Int) (xs : List Int) : Nat → List (List Int)
  | 0 => []
  | k + 1 => powR p xs k ++ [powL p xs k]
/-- Rests that are all different. -/
def DiffP (p : Int) (xs : List Int) : Prop := (∀ i, i < xs.length → 0 ≤ gi xs i ∧ gi xs i < p) ∧ ∀ i j, i < j → j < xs.length → gi xs i ≠ gi xs j
theorem powR_length (p : Int) (xs : List Int) : ∀ k, (powR p xs k).length = k
  | 0 => rfl
  | k + 1 => by rw [powR, List.length_append, powR_length p xs k]; rfl
theorem powR_get (p : Int) (xs : List Int) {i : Nat} : ∀ {k}, i < k → gr (powR p xs k) i = powL p xs i
  | 0, h => by omega
  | k + 1, h => by
    rw [powR]
    by_cases e : i < k
    · rw [gr_snoc_lt (by rw [powR_length]; exact e), powR_get p xs e]
    · obtain rfl : i = k := by omega
      rw [gr_snoc_eq (by rw [powR_length])]
theorem powL_length (p : Int) (xs : List Int) (i : Nat) : (powL p xs i).length = xs.length := List.length_map _
theorem powL_get {p : Int} {xs : List Int} {i j : Nat} (hj : j < xs.length) : gi (powL p xs i) j = pwZ p (gi xs j) i := by
  rw [gi_lt (by rw [powL_length]; exact hj), gi_lt hj]
  simp [powL]
theorem pwZ_range {p x : Int} (hp : 2 ≤ p) : ∀ i, 0 ≤ pwZ p x i ∧ pwZ p x i < p
  | 0 => by unfold pwZ; omega
  | i + 1 => by unfold pwZ; exact ⟨Int.emod_nonneg _ (by omega), Int.emod_lt_of_pos _ (by omega)⟩

section
variable {q : Nat} [NeZero q]
theorem phi_pwZ (x : Int) : ∀ i, phi q (pwZ q x i) = pwF (phi q x) i
  | 0 => phi_one
  | i + 1 => by rw [pwZ, phi_emod, phi_mul, phi_pwZ x i]; rfl
omit [NeZero q] in
theorem powR_good (hq : Pr q) {xs : List Int} {k : Nat} : GoodRows q xs.length (powR q xs k) := fun i hi => by
  rw [powR_length] at hi
  rw [powR_get _ _ hi]
  refine ⟨powL_length _ _ _, fun j hj => ?_⟩
  rw [powL_get hj]
  exact pwZ_range (by have := hq.pos; omega) i
theorem mat_pow {xs : List Int} {k i j : Nat} (hi : i < k) (hj : j < xs.length) : mat q (powR q xs k) i j = pwF (phi q (gi xs j)) i := by
  show phi q (gi (gr (powR q xs k) i) j) = _
  rw [powR_get _ _ hi, powL_get hj, phi_pwZ]
/-- Independent rows are a valid code. -/
theorem valid_of_ind (hq : Pr q) {n : Nat} {rows : List (List Int)} (hg : GoodRows q n rows) (h1 : 1 ≤ rows.length) (h4 : rows.length ≤ 4) (hn : 1 ≤ n ∧ n ≤ 7) (hi : Ind (mat q rows) rows.length) : ValidC q rows := by
  have hc : (gr rows 0).length = n := (hg 0 (by omega)).1
  obtain ⟨out, ho⟩ := IsRed.exists hq hg
  have hd : Dim (mat q rows) rows.length rows.length := ⟨mat q rows, hi, fun i hi => Span.row _ hi, fun i hi => Span.row _ hi⟩
  have hl : out.length = rows.length := ho.dim.unique hq hd
  refine ⟨vtB_iff.2 ⟨by rcases hq with rfl | rfl | rfl | rfl <;> simp, ⟨h1, by omega⟩, by rw [hc]; exact hn, fun i hi => ⟨by rw [hc]; exact (hg i hi).1, fun k hk => ?_⟩⟩, h4, out, ⟨q, _, rfl, hq, by rw [hc]; exact ho⟩, hl⟩
  rw [(hg i hi).1] at hk
  have := (hg i hi).2 k hk
  omega
/-- What tells a best code. -/
theorem best_of {n : Nat} {rows : List (List Int)} (h : CodeOk q n rows) (H : ∀ (c : Nat → Fin q) (S : Nat), S < 2 ^ n → wtN S n = rows.length → (∀ j, j < n → bitN S j = 1 → sm (fun i => c i * mat q rows i j) rows.length = 0) → ∀ i, i < rows.length → c i = 0) : BestTo q rows (2 ^ n) := by
  rw [h.best_iff]
  intro S hS hw
  rw [h.full_iff]
  intro t ht hv
  have hq0 : 0 < q := by have := h.tab.pr.pos; omega
  have hz := H (fun i => vec q (msg q rows.length t) i) S hS hw (fun j hj hb => by
    rw [← wordT_vec h.tab.good]
    show phi q (gi (wordT q n rows t) j) = 0
    rw [hv j hj hb, phi_zero])
  refine msg_inj hq0 ht (Nat.pow_pos hq0) ?_
  refine vec_inj (msg_good hq0) (msg_good hq0) (fun i hi => ?_)
  rw [hz i hi]
  unfold vec
  rw [msg_vec0, phi_zero]
theorem phi_ne {x y : Int} (hx : 0 ≤ x ∧ x < q) (hy : 0 ≤ y ∧ y < q) (h : x ≠ y) : phi q x ≠ phi q y := fun e => h (phi_eq_of_range hx.1 hx.2 hy.1 hy.2 e)
theorem DiffP.ne {xs : List Int} (h : DiffP q xs) {i j : Nat} (hi : i < xs.length) (hj : j < xs.length) (hij : i ≠ j) : phi q (gi xs i) ≠ phi q (gi xs j) := by
  refine phi_ne (h.1 i hi) (h.1 j hj) ?_
  rcases Nat.lt_or_gt_of_ne hij with c | c
  · exact h.2 i j c hj
  · exact fun e => h.2 j i c hi e.symm
/-- The places of a set, in order. -/
theorem places {s n : Nat} : ∃ f : Nat → Nat, (∀ j, j < wtN s n → f j < n ∧ bitN s (f j) = 1) ∧ ∀ i j, i < j → j < wtN s n → f i ≠ f j := by
  classical
  have h : ∀ j, ∃ k, j < wtN s n → (k < n ∧ bitN s k = 1 ∧ wtN s k = j) := fun j => by
    by_cases c : j < wtN s n
    · obtain ⟨k, hk⟩ := sel_hit s n j c
      exact ⟨k, fun _ => hk⟩
    · exact ⟨0, fun h => absurd h c⟩
  refine ⟨fun j => Classical.choose (h j), fun j hj => ?_, fun i j hij hj => ?_⟩
  · have := Classical.choose_spec (h j) hj
    exact ⟨this.1, this.2.1⟩
  · intro e
    have h1 := (Classical.choose_spec (h i) (by omega)).2.2
    have h2 := (Classical.choose_spec (h j) hj).2.2
    have e' : Classical.choose (h i) = Classical.choose (h j) := e
    rw [e', h2] at h1
    omega
theorem pow_zero_of (hq : Pr q) {xs : List Int} {k : Nat} (hd : DiffP q xs) (c : Nat → Fin q) (f : Nat → Nat) (hf : ∀ j, j < k → f j < xs.length) (hfn : ∀ i j, i < j → j < k → f i ≠ f j) (h0 : ∀ j, j < k → sm (fun i => c i * mat q (powR q xs k) i (f j)) k = 0) : ∀ i, i < k → c i = 0 := by
  refine ev_roots hq k c (fun j => phi q (gi xs (f j))) (fun i j hij hj => hd.ne (hf i (by omega)) (hf j hj) (hfn i j hij hj)) (fun j hj => ?_)
  rw [← h0 j hj]
  refine sm_congr (fun i hi => ?_)
  rw [mat_pow hi (hf j hj)]
/-- Codes of powers are valid and best. -/
theorem pow_code (hq : Pr q) {xs : List Int} {k : Nat} (hd : DiffP q xs) (hk : 1 ≤ k ∧ k ≤ 4) (hn : k ≤ xs.length ∧ xs.length ≤ 7) : ValidC q (powR q xs k) ∧ BestTo q (powR q xs k) (2 ^ xs.length) := by
  have hi : Ind (mat q (powR q xs k)) (powR q xs k).length := by
    rw [powR_length]
    intro c hc
    exact pow_zero_of hq hd c (fun j => j) (fun j hj => by omega) (fun i j hij hj => by omega) (fun j hj => hc j)
  have hv := valid_of_ind hq (powR_good hq) (by rw [powR_length]; exact hk.1) (by rw [powR_length]; exact hk.2) (by omega) hi
  refine ⟨hv, ?_⟩
  have hc := hv.code
  have e : (gr (powR q xs k) 0).length = xs.length := by rw [powR_get _ _ (by omega), powL_length]
  rw [e] at hc
  refine best_of hc (fun c S hS hw h0 => ?_)
  rw [powR_length] at hw h0 ⊢
  obtain ⟨f, f1, f2⟩ := places (s := S) (n := xs.length)
  rw [hw] at f1 f2
  exact pow_zero_of hq hd c f (fun j hj => (f1 j hj).1) f2 (fun j hj => h0 (f j) (f1 j hj).1 (f1 j hj).2)
end
end Go.Proofs.Ytahgjfmdafhedaa
