/- Reading the texts of codes, in plain Lean. -/
import Derived.Test.YtcdbeepphdfipaaGreatDoorTxt
import Derived.Test.YtcdbeepphdfipaaGreatDoorKnow
namespace Go.Proofs.YtcdbeepphdfipaaGreatDoor
set_option linter.unusedVariables false

/-- The pieces of a text between the bytes c. -/
def splitB (c : UInt8) : List UInt8 → List (List UInt8)
  | [] => [[]]
  | x :: l => if x = c then [] :: splitB c l else match splitB c l with
    | [] => [[x]]
    | h :: t => (x :: h) :: t

theorem splitB_none {c : UInt8} : ∀ {a : List UInt8}, c ∉ a → splitB c a = [a]
  | [], _ => rfl
  | x :: a, h => by
    have hx : x ≠ c := fun e => h (by rw [e]; exact List.mem_cons_self ..)
    have ha : c ∉ a := fun e => h (List.mem_cons_of_mem _ e)
    rw [splitB, if_neg hx, splitB_none ha]
theorem splitB_app {c : UInt8} : ∀ {a : List UInt8} (l : List UInt8), c ∉ a → splitB c (a ++ c :: l) = a :: splitB c l
  | [], l, _ => by rw [List.nil_append, splitB, if_pos rfl]
  | x :: a, l, h => by
    have hx : x ≠ c := fun e => h (by rw [e]; exact List.mem_cons_self ..)
    have ha : c ∉ a := fun e => h (List.mem_cons_of_mem _ e)
    rw [List.cons_append, splitB, if_neg hx, splitB_app l ha]

theorem digB_ne {x : Int} (h0 : 0 ≤ x) (h9 : x ≤ 9) : digB x ≠ 47 ∧ digB x ≠ 58 := by
  have h : x = 0 ∨ x = 1 ∨ x = 2 ∨ x = 3 ∨ x = 4 ∨ x = 5 ∨ x = 6 ∨ x = 7 ∨ x = 8 ∨ x = 9 := by omega
  rcases h with rfl | rfl | rfl | rfl | rfl | rfl | rfl | rfl | rfl | rfl <;> decide
theorem digB_to {x : Int} (h0 : 0 ≤ x) (h9 : x ≤ 9) : ((digB x).toNat : Int) - 48 = x := by
  have h : x = 0 ∨ x = 1 ∨ x = 2 ∨ x = 3 ∨ x = 4 ∨ x = 5 ∨ x = 6 ∨ x = 7 ∨ x = 8 ∨ x = 9 := by omega
  rcases h with rfl | rfl | rfl | rfl | rfl | rfl | rfl | rfl | rfl | rfl <;> decide
theorem digB_inj {x y : Int} (h0 : 0 ≤ x) (h9 : x ≤ 9) (k0 : 0 ≤ y) (k9 : y ≤ 9) (h : digB x = digB y) : x = y := by
  rw [← digB_to h0 h9, ← digB_to k0 k9, h]

/-- All numbers of a row have a digit. -/
def Dg (r : List Int) : Prop := ∀ x ∈ r, 0 ≤ x ∧ x ≤ 9
theorem Dg.of {r : List Int} (h : ∀ k, k < r.length → 0 ≤ gi r k ∧ gi r k ≤ 9) : Dg r := by
  intro x hx
  obtain ⟨i, hi, rfl⟩ := List.getElem_of_mem hx
  have := h i hi
  rw [gi_lt hi] at this
  exact this
theorem Dg.ne {r : List Int} (h : Dg r) : (47 : UInt8) ∉ rowT r := by
  intro hm
  obtain ⟨x, hx, e⟩ := List.mem_map.1 hm
  exact (digB_ne (h x hx).1 (h x hx).2).1 e
/-- The numbers of a text's bytes. -/
def unT (l : List UInt8) : List Int := l.map fun b => (b.toNat : Int) - 48
theorem unT_rowT : ∀ {r : List Int}, Dg r → unT (rowT r) = r
  | [], _ => rfl
  | x :: r, h => by
    have h1 := digB_to (h x (List.mem_cons_self ..)).1 (h x (List.mem_cons_self ..)).2
    have h2 := unT_rowT (r := r) (fun y hy => h y (List.mem_cons_of_mem _ hy))
    unfold unT rowT at h2 ⊢
    rw [List.map_cons, List.map_cons, h1, h2]
theorem rowT_inj {a b : List Int} (h : Dg a) (k : Dg b) (e : rowT a = rowT b) : a = b := by rw [← unT_rowT h, ← unT_rowT k, e]

theorem split_tail : ∀ (r : List Int) (rows : List (List Int)), Dg r → (∀ r ∈ rows, Dg r) → splitB 47 (rowT r ++ Lib.joinTail [47] (rows.map rowT)) = rowT r :: rows.map rowT
  | r, [], h, _ => by
    rw [List.map_nil, show Lib.joinTail [47] [] = [] from rfl, List.append_nil, splitB_none h.ne]
  | r, s :: rows, h, hs => by
    have e : Lib.joinTail [47] ((s :: rows).map rowT) = 47 :: (rowT s ++ Lib.joinTail [47] (rows.map rowT)) := by
      simp [Lib.joinTail]
    rw [e, splitB_app _ h.ne, split_tail s rows (hs s (List.mem_cons_self ..)) (fun r hr => hs r (List.mem_cons_of_mem _ hr)), List.map_cons]
/-- The rows of a text are its pieces. -/
theorem split_rows {rows : List (List Int)} (h : ∀ r ∈ rows, Dg r) (h1 : 1 ≤ rows.length) : splitB 47 (rowsTo rows rows.length) = rows.map rowT := by
  cases rows with
  | nil => simp at h1
  | cons r rows => rw [← rowsTo_join, List.map_cons, Lib.join_cons, split_tail r rows (h r (List.mem_cons_self ..)) (fun r hr => h r (List.mem_cons_of_mem _ hr))]

theorem map_unT : ∀ {rows : List (List Int)}, (∀ r ∈ rows, Dg r) → (rows.map rowT).map unT = rows
  | [], _ => rfl
  | r :: rows, h => by
    rw [List.map_cons, List.map_cons, unT_rowT (h r (List.mem_cons_self ..)), map_unT (fun r hr => h r (List.mem_cons_of_mem _ hr))]

theorem ValidC.dg {p : Int} {rows : List (List Int)} (h : ValidC p rows) : (0 ≤ p ∧ p ≤ 9) ∧ 1 ≤ rows.length ∧ ∀ r ∈ rows, Dg r := by
  obtain ⟨h1, h2, h3, h4⟩ := vtB_iff.1 h.1
  refine ⟨by omega, h2.1, fun r hr => ?_⟩
  obtain ⟨i, hi, rfl⟩ := List.getElem_of_mem hr
  rw [← gr_lt hi]
  refine Dg.of (fun k hk => ?_)
  have := (h4 i hi).2 k hk
  omega

theorem codeT_inj {p q : Int} {R S : List (List Int)} (h : ValidC p R) (k : ValidC q S) (e : codeT p R = codeT q S) : p = q ∧ R = S := by
  obtain ⟨hp, hr, hR⟩ := h.dg
  obtain ⟨kp, kr, kR⟩ := k.dg
  unfold codeT at e
  simp only [List.cons.injEq] at e
  refine ⟨digB_inj hp.1 hp.2 kp.1 kp.2 e.1, ?_⟩
  rw [← map_unT hR, ← map_unT kR, ← split_rows hR hr, ← split_rows kR kr, e.2.2]

/-- What ParseCode returns for a text. -/
def ParseR (s : List UInt8) (p : Int) (rows : List (List Int)) (ok : Bool) : Prop :=
  (ok = true → ValidC p rows ∧ s = codeT p rows) ∧ (ok = false → p = 0 ∧ rows = [] ∧ ∀ q R, ValidC q R → s ≠ codeT q R)
theorem ParseR.unique {s : List UInt8} {p q : Int} {R S : List (List Int)} {a b : Bool} (h : ParseR s p R a) (k : ParseR s q S b) : p = q ∧ R = S ∧ a = b := by
  cases a with
  | true =>
    obtain ⟨h1, h2⟩ := h.1 rfl
    cases b with
    | true =>
      obtain ⟨k1, k2⟩ := k.1 rfl
      obtain ⟨e1, e2⟩ := codeT_inj h1 k1 (h2.symm.trans k2)
      exact ⟨e1, e2, rfl⟩
    | false => exact absurd h2 ((k.2 rfl).2.2 _ _ h1)
  | false =>
    obtain ⟨h1, h2, h3⟩ := h.2 rfl
    cases b with
    | true => exact absurd (k.1 rfl).2 (h3 _ _ (k.1 rfl).1)
    | false =>
      obtain ⟨k1, k2, _⟩ := k.2 rfl
      exact ⟨h1.trans k1.symm, h2.trans k2.symm, rfl⟩
end Go.Proofs.YtcdbeepphdfipaaGreatDoor
