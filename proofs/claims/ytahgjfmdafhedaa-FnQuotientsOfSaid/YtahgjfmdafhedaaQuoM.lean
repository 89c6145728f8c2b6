/- Codes of quotients: their rows; they are valid, plain and best. Plain. -/
import Derived.Test.YtahgjfmdafhedaaPowM
namespace Go.Proofs.Ytahgjfmdafhedaa
open Go.RowKit Mat
set_option linter.unusedVariables false

/-- Row i of the quotients. -/
def quoL (p : Int) (xs ys : List Int) (i : Nat) : List Int := unitL xs.length i ++ ys.map (fun y => invZ p ((gi xs i - y) % p))
/-- The first k rows. -/
def quoR (p : Int) (xs ys : List Int) : Nat → List (List Int)
  | 0 => []
  | k + 1 => quoR p xs ys k ++ [quoL p xs ys k]
theorem quoR_length (p : Int) (xs ys : List Int) : ∀ k, (quoR p xs ys k).length = k
  | 0 => rfl
  | k + 1 => by rw [quoR, List.length_append, quoR_length p xs ys k]; rfl
theorem quoR_get (p : Int) (xs ys : List Int) {i : Nat} : ∀ {k}, i < k → gr (quoR p xs ys k) i = quoL p xs ys i
  | 0, h => by omega
  | k + 1, h => by
    rw [quoR]
    by_cases e : i < k
    · rw [gr_snoc_lt (by rw [quoR_length]; exact e), quoR_get p xs ys e]
    · obtain rfl : i = k := by omega
      rw [gr_snoc_eq (by rw [quoR_length])]
theorem quoL_length (p : Int) (xs ys : List Int) (i : Nat) : (quoL p xs ys i).length = xs.length + ys.length := by
  rw [quoL, List.length_append, unitL_length, List.length_map]
theorem gi_app {a b : List Int} {j : Nat} : gi (a ++ b) j = if j < a.length then gi a j else gi b (j - a.length) := by
  unfold gi
  rw [List.getD_eq_getElem?_getD, List.getD_eq_getElem?_getD, List.getD_eq_getElem?_getD, List.getElem?_append]
  split <;> rfl
theorem quoL_lo {p : Int} {xs ys : List Int} {i j : Nat} (hj : j < xs.length) : gi (quoL p xs ys i) j = if i = j then 1 else 0 := by
  rw [quoL, gi_app, unitL_length, if_pos hj, unitL_get hj]
theorem quoL_hi {p : Int} {xs ys : List Int} {i j : Nat} (hj : j < ys.length) : gi (quoL p xs ys i) (xs.length + j) = invZ p ((gi xs i - gi ys j) % p) := by
  rw [quoL, gi_app, unitL_length, if_neg (by omega), Nat.add_sub_cancel_left, gi_lt (by rw [List.length_map]; exact hj), gi_lt hj, List.getElem_map]

section
variable {q : Nat} [NeZero q]
/-- A polynomial with k numbers. -/
def Poly (k : Nat) (f : Fin q → Fin q) : Prop := ∃ d : Nat → Fin q, ∀ y, f y = ev d k y
theorem ev_cut (d : Nat → Fin q) (y : Fin q) (k : Nat) : ev (fun i => if i < k then d i else 0) (k + 1) y = ev d k y := by
  show sm (fun i => (if i < k then d i else 0) * pwF y i) k + (if k < k then d k else 0) * pwF y k = sm (fun i => d i * pwF y i) k
  rw [if_neg (Nat.lt_irrefl k), sm_congr (g := fun i => d i * pwF y i) (fun i hi => by rw [if_pos hi])]
  grind
theorem ev_sub (a b : Nat → Fin q) (y : Fin q) : ∀ k, ev (fun i => a i - b i) k y = ev a k y - ev b k y
  | 0 => by simp only [ev, sm]; grind
  | k + 1 => by
    have ih := ev_sub a b y k
    show ev (fun i => a i - b i) k y + (a k - b k) * pwF y k = (ev a k y + a k * pwF y k) - (ev b k y + b k * pwF y k)
    rw [ih]; grind
theorem ev_add (a b : Nat → Fin q) (y : Fin q) : ∀ k, ev (fun i => a i + b i) k y = ev a k y + ev b k y
  | 0 => by simp only [ev, sm]; grind
  | k + 1 => by
    have ih := ev_add a b y k
    show ev (fun i => a i + b i) k y + (a k + b k) * pwF y k = (ev a k y + a k * pwF y k) + (ev b k y + b k * pwF y k)
    rw [ih]; grind
theorem ev_smul (c : Fin q) (a : Nat → Fin q) (y : Fin q) : ∀ k, ev (fun i => c * a i) k y = c * ev a k y
  | 0 => by simp only [ev, sm]; grind
  | k + 1 => by
    have ih := ev_smul c a y k
    show ev (fun i => c * a i) k y + (c * a k) * pwF y k = c * (ev a k y + a k * pwF y k)
    rw [ih]; grind
theorem Poly.add {k : Nat} {f g : Fin q → Fin q} : Poly k f → Poly k g → Poly k (fun y => f y + g y)
  | ⟨a, ha⟩, ⟨b, hb⟩ => ⟨fun i => a i + b i, fun y => by show f y + g y = _; rw [ev_add, ha y, hb y]⟩
theorem Poly.smul {k : Nat} {f : Fin q → Fin q} (c : Fin q) : Poly k f → Poly k (fun y => c * f y)
  | ⟨a, ha⟩ => ⟨fun i => c * a i, fun y => by show c * f y = _; rw [ev_smul, ha y]⟩
theorem Poly.zero (k : Nat) : Poly (q := q) k (fun _ => 0) := ⟨fun _ => 0, fun y => (sm_zero (fun i _ => by grind)).symm⟩
theorem Poly.one : Poly (q := q) 1 (fun _ => 1) := ⟨fun _ => 1, fun y => by simp only [ev, sm, pwF]; grind⟩
theorem Poly.lin {k : Nat} {f : Fin q → Fin q} (a : Fin q) : Poly k f → Poly (k + 1) (fun y => f y * (a - y))
  | ⟨d, hd⟩ => ⟨fun i => a * (if i < k then d i else 0) - (match i with | 0 => 0 | i + 1 => d i), fun y => by
    rw [ev_sub (fun i => a * (if i < k then d i else 0)) (fun i => match i with | 0 => 0 | i + 1 => d i), ev_smul, ev_cut, ev_front (fun i => match i with | 0 => 0 | i + 1 => d i), ← hd y]
    show f y * (a - y) = a * f y - (0 + y * f y)
    grind⟩
/-- The product of all differences but one. -/
def prB' (X : Nat → Fin q) (i : Nat) (y : Fin q) : Nat → Fin q
  | 0 => 1
  | l + 1 => prB' X i y l * (if l = i then 1 else X l - y)
/-- The product of all differences. -/
def prA (X : Nat → Fin q) (y : Fin q) : Nat → Fin q
  | 0 => 1
  | l + 1 => prA X y l * (X l - y)
theorem prB_low {X : Nat → Fin q} {i : Nat} {y : Fin q} : ∀ {l}, l ≤ i → prB' X i y l = prA X y l
  | 0, _ => rfl
  | l + 1, h => by rw [prB', prA, prB_low (by omega), if_neg (by omega)]
theorem prB_all {X : Nat → Fin q} {i : Nat} {y : Fin q} : ∀ {l}, i < l → prB' X i y l * (X i - y) = prA X y l
  | 0, h => by omega
  | l + 1, h => by
    rw [prB', prA]
    by_cases e : l = i
    · subst e
      rw [if_pos rfl, prB_low (Nat.le_refl _)]; grind
    · rw [if_neg e, ← prB_all (X := X) (i := i) (y := y) (l := l) (by omega)]; grind
theorem prB_zero {X : Nat → Fin q} {i a : Nat} (hai : a ≠ i) : ∀ {l}, a < l → prB' X i (X a) l = 0
  | 0, h => by omega
  | l + 1, h => by
    rw [prB']
    by_cases e : a = l
    · subst e
      rw [if_neg hai]; grind
    · rw [prB_zero hai (by omega)]; grind
theorem prB_ne (hq : Pr q) {X : Nat → Fin q} {i : Nat} {y : Fin q} : ∀ {l}, (∀ a, a < l → a ≠ i → X a ≠ y) → prB' X i y l ≠ 0
  | 0, _ => one_ne_zero hq.pos.1
  | l + 1, h => by
    rw [prB']
    intro e
    have h1 := prB_ne hq (X := X) (i := i) (y := y) (l := l) (fun a ha => h a (by omega))
    have h2 := fin_mul_zero hq e h1
    by_cases c : l = i
    · rw [if_pos c] at h2; exact one_ne_zero hq.pos.1 h2
    · rw [if_neg c] at h2; exact h l (by omega) c (by grind)
theorem Poly.prB (X : Nat → Fin q) (i : Nat) : ∀ l, Poly (if i < l then l else l + 1) (fun y => prB' X i y l)
  | 0 => by rw [if_neg (by omega)]; exact Poly.one
  | l + 1 => by
    have ih := Poly.prB X i l
    by_cases e : l = i
    · subst e
      rw [if_neg (by omega)] at ih
      rw [if_pos (by omega)]
      obtain ⟨d, hd⟩ := ih
      exact ⟨d, fun y => by rw [← hd y]; show prB' X l y l * (if l = l then 1 else X l - y) = _; rw [if_pos rfl]; grind⟩
    · have h2 := ih.lin (X l)
      have h3 : (fun y => prB' X i y (l + 1)) = (fun y => prB' X i y l * (X l - y)) := by
        funext y; show prB' X i y l * (if l = i then 1 else X l - y) = _; rw [if_neg e]
      rw [h3]
      by_cases c : i < l
      · rw [if_pos c] at h2; rw [if_pos (by omega)]; exact h2
      · rw [if_neg c] at h2; rw [if_neg (by omega)]; exact h2
theorem Poly.sum (X : Nat → Fin q) (c : Nat → Fin q) (m : Nat) : ∀ n, n ≤ m → Poly m (fun y => sm (fun i => c i * prB' X i y m) n)
  | 0, _ => Poly.zero m
  | n + 1, h => by
    have h1 := Poly.prB X n m
    rw [if_pos (by omega)] at h1
    exact (Poly.sum X c m n (by omega)).add (h1.smul (c n))
/-- Differences of all that meet: the rows of quotients are independent at any m places. -/
theorem cauchy (hq : Pr q) {m t : Nat} {X Y : Nat → Fin q} {I : Nat → Nat → Fin q} (hI : ∀ i j, i < m → j < t → (X i - Y j) * I i j = 1) (c : Nat → Fin q) (g : Nat → Nat) (hg : ∀ j, j < m → g j < m + t)
    (hd : ∀ i j, i < j → j < m → (if g i < m then X (g i) else Y (g i - m)) ≠ (if g j < m then X (g j) else Y (g j - m))) (hX : ∀ a b, a < m → b < m → a ≠ b → X a ≠ X b)
    (h0 : ∀ j, j < m → if g j < m then c (g j) = 0 else sm (fun i => c i * I i (g j - m)) m = 0) : ∀ i, i < m → c i = 0 := by
  obtain ⟨d, hP0⟩ := Poly.sum X c m m (Nat.le_refl _)
  have hP : ∀ y, sm (fun i => c i * prB' X i y m) m = ev d m y := hP0
  have hat : ∀ a, a < m → sm (fun i => c i * prB' X i (X a) m) m = c a * prB' X a (X a) m := fun a ha => by
    rw [sm_single a ha (fun i hi hne => by rw [prB_zero (fun e => hne e.symm) ha]; grind)]
  have hr : ∀ j, j < m → ev d m (if g j < m then X (g j) else Y (g j - m)) = 0 := fun j hj => by
    rw [← hP]
    have h1 := h0 j hj
    by_cases e : g j < m
    · rw [if_pos e] at h1 ⊢
      rw [hat _ e, h1]; grind
    · rw [if_neg e] at h1 ⊢
      have h2 : sm (fun i => c i * prB' X i (Y (g j - m)) m) m = prA X (Y (g j - m)) m * sm (fun i => c i * I i (g j - m)) m := by
        rw [← sm_mul]
        refine sm_congr (fun i hi => ?_)
        have h3 := hI i (g j - m) hi (by have := hg j hj; omega)
        rw [← prB_all (X := X) (i := i) (y := Y (g j - m)) hi]
        grind
      rw [h2, h1]; grind
  have hz := ev_roots hq m d _ hd hr
  intro a ha
  have h5 := hat a ha
  rw [hP (X a)] at h5
  have h6 : ev d m (X a) = 0 := sm_zero (fun i hi => by rw [hz i hi]; grind)
  rw [h6] at h5
  have h7 := prB_ne hq (X := X) (i := a) (y := X a) (l := m) (fun b hb hne => hX b a hb ha hne)
  exact fin_mul_zero hq (a := prB' X a (X a) m) (by grind) h7

theorem phi_invD (hq : Pr q) {x y : Int} (hx : 0 ≤ x ∧ x < q) (hy : 0 ≤ y ∧ y < q) (h : x ≠ y) : (1 ≤ (x - y) % q ∧ (x - y) % q < q) ∧ (phi q x - phi q y) * phi q (invZ q ((x - y) % q)) = 1 := by
  have hp : prB q = true := by rw [prB_iff]; rcases hq with rfl | rfl | rfl | rfl <;> simp
  have hq0 : (0 : Int) < q := by have := hq.pos; omega
  have h1 := Int.emod_nonneg (x - y) (show (q : Int) ≠ 0 by omega)
  have h2 := Int.emod_lt_of_pos (x - y) hq0
  have h3 : (x - y) % q ≠ 0 := fun e => by
    refine h (phi_eq_of_range hx.1 hx.2 hy.1 hy.2 ?_)
    have h4 : phi q (x - y) = 0 := by rw [← phi_emod, e, phi_zero]
    rw [phi_sub] at h4
    grind
  have h5 := invZ_spec hp (show 1 ≤ (x - y) % q by omega) h2
  refine ⟨⟨by omega, h2⟩, ?_⟩
  rw [← phi_sub, ← phi_emod (x - y), ← phi_mul, ← phi_emod, h5.2.2, phi_one]
theorem quoR_good (hq : Pr q) {xs ys : List Int} (hd : DiffP q (xs ++ ys)) {k : Nat} (hk : k ≤ xs.length) : GoodRows q (xs.length + ys.length) (quoR q xs ys k) := fun i hi => by
  rw [quoR_length] at hi
  rw [quoR_get _ _ _ hi]
  refine ⟨quoL_length _ _ _ _, fun j hj => ?_⟩
  have hq2 := hq.pos
  by_cases e : j < xs.length
  · rw [quoL_lo e]; split <;> omega
  · obtain ⟨b, rfl⟩ : ∃ b, j = xs.length + b := ⟨j - xs.length, by omega⟩
    have hp : prB q = true := by rw [prB_iff]; rcases hq with rfl | rfl | rfl | rfl <;> simp
    have h1 := (hd.1 i (by rw [List.length_append]; omega))
    have h2 := (hd.1 (xs.length + b) (by rw [List.length_append]; omega))
    have h3 := hd.2 i (xs.length + b) (by omega) (by rw [List.length_append]; omega)
    rw [gi_app, if_pos (by omega)] at h1 h3
    rw [gi_app, if_neg (by omega), Nat.add_sub_cancel_left] at h2 h3
    have h4 := (phi_invD hq h1 h2 h3).1
    rw [quoL_hi (by omega)]
    have := invZ_spec hp h4.1 h4.2
    omega
/-- Codes of quotients are valid and best. -/
theorem quo_code (hq : Pr q) {xs ys : List Int} (hd : DiffP q (xs ++ ys)) (hk : 1 ≤ xs.length ∧ xs.length ≤ 4) (hn : xs.length + ys.length ≤ 7) :
    ValidC q (quoR q xs ys xs.length) ∧ BestTo q (quoR q xs ys xs.length) (2 ^ (xs.length + ys.length)) := by
  have hg := quoR_good hq hd (Nat.le_refl xs.length)
  have hlo : ∀ i j, i < xs.length → j < xs.length → mat q (quoR q xs ys xs.length) i j = if i = j then 1 else 0 := fun i j hi hj => by
    show phi q (gi (gr (quoR q xs ys xs.length) i) j) = _
    rw [quoR_get _ _ _ hi, quoL_lo hj]
    split
    · exact phi_one
    · exact phi_zero
  have hcol : ∀ (c : Nat → Fin q) (j : Nat), j < xs.length → sm (fun i => c i * mat q (quoR q xs ys xs.length) i j) xs.length = c j := fun c j hj => by
    rw [sm_single j hj (fun i hi hne => by rw [hlo i j hi hj, if_neg hne]; grind), hlo j j hj hj, if_pos rfl]; grind
  have hi : Ind (mat q (quoR q xs ys xs.length)) (quoR q xs ys xs.length).length := by
    rw [quoR_length]
    intro c hc i hi
    rw [← hcol c i hi]; exact hc i
  have hv := valid_of_ind hq hg (by rw [quoR_length]; exact hk.1) (by rw [quoR_length]; exact hk.2) (by omega) hi
  refine ⟨hv, ?_⟩
  have hc := hv.code
  have e : (gr (quoR q xs ys xs.length) 0).length = xs.length + ys.length := by rw [quoR_get _ _ _ (by omega), quoL_length]
  rw [e] at hc
  refine best_of hc (fun c S hS hw h0 => ?_)
  rw [quoR_length] at hw h0 ⊢
  obtain ⟨f, f1, f2⟩ := places (s := S) (n := xs.length + ys.length)
  rw [hw] at f1 f2
  have hxl : ∀ a, a < xs.length → gi (xs ++ ys) a = gi xs a := fun a ha => by rw [gi_app, if_pos ha]
  have hyl : ∀ b, gi (xs ++ ys) (xs.length + b) = gi ys b := fun b => by rw [gi_app, if_neg (by omega), Nat.add_sub_cancel_left]
  have hroot : ∀ j, j < xs.length → (if f j < xs.length then phi q (gi xs (f j)) else phi q (gi ys (f j - xs.length))) = phi q (gi (xs ++ ys) (f j)) := fun j hj => by
    split
    · rw [hxl _ (by assumption)]
    · rw [← hyl, Nat.add_sub_cancel' (by omega)]
  refine cauchy hq (X := fun i => phi q (gi xs i)) (Y := fun j => phi q (gi ys j)) (t := ys.length) (I := fun i j => phi q (invZ q ((gi xs i - gi ys j) % q))) (fun i j hi hj => ?_) c f (fun j hj => (f1 j hj).1) (fun i j hij hj => ?_) (fun a b ha hb hne => ?_) (fun j hj => ?_)
  · have h1 := (hd.1 i (by rw [List.length_append]; omega))
    have h2 := (hd.1 (xs.length + j) (by rw [List.length_append]; omega))
    have h3 := hd.2 i (xs.length + j) (by omega) (by rw [List.length_append]; omega)
    rw [hxl i hi] at h1 h3
    rw [hyl] at h2 h3
    exact (phi_invD hq h1 h2 h3).2
  · show (if f i < xs.length then phi q (gi xs (f i)) else phi q (gi ys (f i - xs.length))) ≠ (if f j < xs.length then phi q (gi xs (f j)) else phi q (gi ys (f j - xs.length)))
    rw [hroot i (by omega), hroot j hj]
    exact hd.ne (by rw [List.length_append]; exact (f1 i (by omega)).1) (by rw [List.length_append]; exact (f1 j hj).1) (f2 i j hij hj)
  · show phi q (gi xs a) ≠ phi q (gi xs b)
    rw [← hxl a ha, ← hxl b hb]
    exact hd.ne (by rw [List.length_append]; omega) (by rw [List.length_append]; omega) hne
  · have h1 := h0 (f j) (f1 j hj).1 (f1 j hj).2
    by_cases c' : f j < xs.length
    · rw [if_pos c']; rw [hcol c _ c'] at h1; exact h1
    · rw [if_neg c', ← h1]
      refine sm_congr (fun i hi => ?_)
      have h2 : mat q (quoR q xs ys xs.length) i (f j) = phi q (invZ q ((gi xs i - gi ys (f j - xs.length)) % q)) := by
        show phi q (gi (gr (quoR q xs ys xs.length) i) (f j)) = _
        rw [quoR_get _ _ _ hi, ← quoL_hi (by have := (f1 j hj).1; omega), Nat.add_sub_cancel' (by omega)]
      rw [h2]
end
end Go.Proofs.Ytahgjfmdafhedaa
