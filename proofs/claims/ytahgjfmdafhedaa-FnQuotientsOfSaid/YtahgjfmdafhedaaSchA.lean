/- Schemes, plain: the rows of a group, and which groups know. -/
import Derived.Test.YtahgjfmdafhedaaSolS
import Derived.Test.YtahgjfmdafhedaaBitL
import Derived.Test.YtahgjfmdafhedaaLeaf
import Derived.Test.YtahgjfmdafhedaaLawK
namespace Go.Proofs.Ytahgjfmdafhedaa
open Go.RowKit Mat
set_option linter.unusedVariables false

/-- A block of three cells, that may be written. -/
def Blk3 (w : World) (g : Nat) (a b c : Value) (t : TypeId) : Prop := w.heap[g]? = some (.cells #[a, b, c] t (0, 0))
theorem Blk3.cells {w : World} {g : Nat} {a b c : Value} {t : TypeId} (h : Blk3 w g a b c t) :
    w.cell? ⟨g, 0, none⟩ = some a ∧ w.cell? ⟨g, 1, none⟩ = some b ∧ w.cell? ⟨g, 2, none⟩ = some c ∧ w.frozen? ⟨g, 0, none⟩ = false ∧ w.frozen? ⟨g, 1, none⟩ = false ∧ w.frozen? ⟨g, 2, none⟩ = false :=
  ⟨by rw [cell_of_heap h]; rfl, by rw [cell_of_heap h]; rfl, by rw [cell_of_heap h]; rfl, frozen_of_heap h 0, frozen_of_heap h 1, frozen_of_heap h 2⟩
theorem Blk3.chg {S : Nat → Prop} {w w' : World} {g : Nat} {a b c : Value} {t : TypeId} (h : Blk3 w g a b c t) (hc : Chg S w w') (hS : ¬ S g) : Blk3 w' g a b c t := hc.heapAt h hS
theorem Blk3.new {w w' : World} {g : Nat} {a b c : Value} {t : TypeId} (h : Blk3 w g a b c t) (hc : New w w') : Blk3 w' g a b c t := hc.heapAt h (fun x => x)
theorem Blk3.alloc (w : World) (a b c : Value) (t : TypeId) : Blk3 (w.alloc (.cells #[a, b, c] t)) w.heap.size a b c t := heap_alloc_new w _

theorem Blk3.set0 {w : World} {g : Nat} {a b c : Value} {t : TypeId} (h : Blk3 w g a b c t) (y : Value) : Blk3 (w.setCell ⟨g, 0, none⟩ y) g y b c t := by
  have h' : w.heap[g]? = some (.cells #[a, b, c] t (0, 0)) := h
  simp [Blk3, World.setCell, Array.getElem?_modify, h']
theorem Blk3.set1 {w : World} {g : Nat} {a b c : Value} {t : TypeId} (h : Blk3 w g a b c t) (y : Value) : Blk3 (w.setCell ⟨g, 1, none⟩ y) g a y c t := by
  have h' : w.heap[g]? = some (.cells #[a, b, c] t (0, 0)) := h
  simp [Blk3, World.setCell, Array.getElem?_modify, h']
theorem Blk3.set2 {w : World} {g : Nat} {a b c : Value} {t : TypeId} (h : Blk3 w g a b c t) (y : Value) : Blk3 (w.setCell ⟨g, 2, none⟩ y) g a b y t := by
  have h' : w.heap[g]? = some (.cells #[a, b, c] t (0, 0)) := h
  simp [Blk3, World.setCell, Array.getElem?_modify, h']
theorem Blk3.lt {w : World} {g : Nat} {a b c : Value} {t : TypeId} (h : Blk3 w g a b c t) : g < w.heap.size := (Array.getElem?_eq_some_iff.1 h).1
theorem own_ne_blk3 {w : World} {e t : TypeId} {v x y z : Value} {xs : List Value} {g : Nat} (h : Own w e v xs) (hb : Blk3 w g x y z t) (hne : e ≠ t) : ∀ b, v.ownBlock = some b → ¬ b = g := by
  intro b hv e1
  subst e1
  rcases h with ⟨rfl, _⟩ | ⟨g1, c1, cur1, rfl, hh1, _⟩
  · simp [Value.ownBlock] at hv
  · simp [Value.ownBlock] at hv
    subst hv
    rw [show w.heap[g1]? = _ from hb] at hh1
    simp at hh1
    exact hne hh1.2.symm

/-- Rows of which the outer slice is one's own, and the inner ones may be read. -/
structure ShR (w : World) (u : Value) (vs : List Value) (rows : List (List Int)) : Prop where
  outer : Own w 23 u vs
  len : vs.length = rows.length
  inner : ∀ i, i < rows.length → IsI w (gv vs i) (gr rows i)
theorem ShR.isR {w : World} {u : Value} {vs : List Value} {rows : List (List Int)} (h : ShR w u vs rows) (hm : Mid rows.length) : IsR w u rows := by
  obtain ⟨ho, hl, hi⟩ := h
  rcases ho with ⟨rfl, h⟩ | ⟨g, cap, cur, rfl, hh, ha, hb, hc, ht⟩
  · subst h
    have h0 : rows.length = 0 := by simpa using hl.symm
    exact ⟨none, 0, by rw [h0], ⟨by omega, by simp⟩, by simp [maxLen], hm, fun i hi => by omega⟩
  · refine ⟨_, cap, by rw [hl], ⟨by omega, by simp⟩, hb, hm, fun i h => ⟨g, 0, gv vs i, rfl, ?_, hi i h⟩⟩
    rw [Nat.zero_add, cell_of_heap hh]
    exact take_get ht (by omega)
theorem ShR.new {w w' : World} {u : Value} {vs : List Value} {rows : List (List Int)} (h : ShR w u vs rows) (hn : New w w') : ShR w' u vs rows := ⟨h.outer.new hn, h.len, fun i hi => (h.inner i hi).new hn⟩
theorem ShR.empty {w : World} {u : Value} (h : Own w 23 u []) : ShR w u [] [] := ⟨h, rfl, fun i hi => by simp at hi⟩
theorem ShR.snoc {w : World} {u x : Value} {vs : List Value} {rows : List (List Int)} {row : List Int} (h : Own w 23 u (vs ++ [x])) (hl : vs.length = rows.length) (hi : ∀ i, i < rows.length → IsI w (gv vs i) (gr rows i)) (hx : IsI w x row) : ShR w u (vs ++ [x]) (rows ++ [row]) := by
  refine ⟨h, by simp [hl], fun i h => ?_⟩
  by_cases c : i < rows.length
  · rw [gv_snoc_lt (by omega), gr_snoc_lt c]; exact hi i c
  · have e : i = rows.length := by simp at h; omega
    rw [gv_snoc_eq (by omega), gr_snoc_eq e]; exact hx

/-- Valid schemes: a table, and for each row an owner. -/
def ValidS (p : Int) (rows : List (List Int)) (own : List Int) : Prop := vtB p rows = true ∧ own.length = rows.length ∧ ∀ j, j < own.length → 0 ≤ gi own j ∧ gi own j ≤ 4
/-- The indexes of a group's rows among the first k. -/
def idxTo (own : List Int) (s : Nat) : Nat → List Int
  | 0 => []
  | k + 1 => if bitN s (gi own k).toNat = 1 then idxTo own s k ++ [(k : Int)] else idxTo own s k
/-- A group's rows among the first k. -/
def grpTo (rows : List (List Int)) (own : List Int) (s : Nat) : Nat → List (List Int)
  | 0 => []
  | k + 1 => if bitN s (gi own k).toNat = 1 then grpTo rows own s k ++ [gr rows k] else grpTo rows own s k
theorem gi_snl {xs : List Int} {x : Int} {i : Nat} (h : i < xs.length) : gi (xs ++ [x]) i = gi xs i := by
  rw [gi_lt (by rw [List.length_append]; omega), List.getElem_append_left h, ← gi_lt h]
theorem gi_sne {xs : List Int} {x : Int} {i : Nat} (h : i = xs.length) : gi (xs ++ [x]) i = x := by
  subst h
  rw [gi_lt (by rw [List.length_append, List.length_singleton]; omega), List.getElem_append_right (by omega)]; simp
theorem idxTo_le (own : List Int) (s : Nat) : ∀ k, (idxTo own s k).length ≤ k
  | 0 => Nat.le_refl _
  | k + 1 => by
    have := idxTo_le own s k
    unfold idxTo
    split
    · rw [List.length_append, List.length_singleton]; omega
    · omega
theorem grpTo_length (rows : List (List Int)) (own : List Int) (s : Nat) : ∀ k, (grpTo rows own s k).length = (idxTo own s k).length
  | 0 => rfl
  | k + 1 => by
    have := grpTo_length rows own s k
    unfold grpTo idxTo
    split
    · rw [List.length_append, List.length_append, List.length_singleton, List.length_singleton]; omega
    · exact this
theorem idxTo_bound (own : List Int) (s : Nat) : ∀ k j, j < (idxTo own s k).length → 0 ≤ gi (idxTo own s k) j ∧ gi (idxTo own s k) j < k
  | 0, j, h => by simp [idxTo] at h
  | k + 1, j, h => by
    have ih := idxTo_bound own s k j
    unfold idxTo at h ⊢
    split
    · rename_i hb
      rw [if_pos hb, List.length_append, List.length_singleton] at h
      by_cases c : j < (idxTo own s k).length
      · rw [gi_snl c]; have := ih c; omega
      · rw [gi_sne (by omega)]; omega
    · rename_i hb
      rw [if_neg hb] at h
      have := ih h; omega
theorem grpTo_get (rows : List (List Int)) (own : List Int) (s : Nat) : ∀ k j, j < (idxTo own s k).length → gr (grpTo rows own s k) j = gr rows (gi (idxTo own s k) j).toNat
  | 0, j, h => by simp [idxTo] at h
  | k + 1, j, h => by
    have ih := grpTo_get rows own s k j
    have hl := grpTo_length rows own s k
    unfold idxTo at h ⊢
    unfold grpTo
    split
    · rename_i hb
      rw [if_pos hb, List.length_append, List.length_singleton] at h
      by_cases c : j < (idxTo own s k).length
      · rw [gr_snoc_lt (by omega), ih c, gi_snl c]
      · rw [gr_snoc_eq (by omega), gi_sne (by omega), Int.toNat_natCast]
    · rename_i hb
      rw [if_neg hb] at h
      exact ih h
theorem grpTo_good {q n : Nat} {rows : List (List Int)} {own : List Int} {s k : Nat} (hg : GoodRows q n rows) (hk : k ≤ rows.length) : GoodRows q n (grpTo rows own s k) := fun j hj => by
  rw [grpTo_length] at hj
  rw [grpTo_get _ _ _ _ _ hj]
  have := idxTo_bound own s k j hj
  exact hg _ (by omega)

/-- The list with 1 at first. -/
def unitG (n : Nat) : List Int := (List.replicate n (0 : Int)).set 0 1
theorem unitG_length (n : Nat) : (unitG n).length = n := by simp [unitG]
theorem unitG_zero {n : Nat} (h : 1 ≤ n) : gi (unitG n) 0 = 1 := by
  unfold unitG
  rw [gi_lt (by simp; omega), List.getElem_set]; simp
theorem unitG_good {q n : Nat} (hq : 2 ≤ q) (hn : 1 ≤ n) : GoodRow q n (unitG n) := ⟨unitG_length n, fun i hi => by
  unfold unitG
  rw [gi_lt (by simp; omega), List.getElem_set]
  split
  · omega
  · rw [List.getElem_replicate]; omega⟩

/-- A group's rows add up to the list with 1 at first. -/
def KnowsQ (q : Nat) [NeZero q] (n : Nat) (rows : List (List Int)) (own : List Int) (s : Nat) : Prop := Span (mat q (grpTo rows own s rows.length)) (grpTo rows own s rows.length).length (vec q (unitG n))
theorem SolB.knows {q : Nat} [NeZero q] {n : Nat} {rows : List (List Int)} {own out : List Int} {s : Nat} {ok : Bool} (h : SolB q (grpTo rows own s rows.length) (unitG n) out ok) : ok = true ↔ KnowsQ q n rows own s := by
  unfold KnowsQ
  cases ok with
  | true => exact ⟨fun _ => (h.1 rfl).spans, fun _ => rfl⟩
  | false => exact ⟨(fun h2 => by cases h2), fun h2 => absurd h2 (h.2 rfl).2⟩
theorem knows_none {q : Nat} [NeZero q] {n : Nat} {rows : List (List Int)} {own : List Int} {s : Nat} (hq : 2 ≤ q) (hn : 1 ≤ n) (h : (idxTo own s rows.length).length = 0) : ¬ KnowsQ q n rows own s := by
  unfold KnowsQ
  rw [grpTo_length, h]
  rintro ⟨c, hc⟩
  have h1 : vec q (unitG n) 0 = 0 := hc 0
  have h2 : gi (unitG n) 0 = 0 := (phi_eq_zero (by rw [unitG_zero hn]; omega) (by rw [unitG_zero hn]; omega)).1 h1
  rw [unitG_zero hn] at h2
  omega

/-- What GroupsOf answers. -/
def GroupsR (p : Int) (rows : List (List Int)) (own out : List Int) : Prop :=
  (ValidS p rows own → ∃ (q : Nat) (_ : NeZero q), p = q ∧ LeastTo 32 (KnowsQ q (gr rows 0).length rows own) 192 out) ∧ (¬ ValidS p rows own → out = [])
/-- What TurnedGroups answers. -/
def TurnedR (p : Int) (rows : List (List Int)) (own out : List Int) : Prop :=
  (ValidS p rows own → ∃ (q : Nat) (_ : NeZero q), p = q ∧ LeastTo 32 (fun s => ¬ KnowsQ q (gr rows 0).length rows own (31 - s)) 192 out) ∧ (¬ ValidS p rows own → out = [])
theorem GroupsR.unique {p : Int} {rows : List (List Int)} {own a b : List Int} (h : GroupsR p rows own a) (h' : GroupsR p rows own b) : a = b := by
  by_cases c : ValidS p rows own
  · obtain ⟨q, i1, e, h1⟩ := h.1 c
    obtain ⟨q', i2, e', h2⟩ := h'.1 c
    obtain rfl : q = q' := by omega
    exact h1.unique h2
  · rw [h.2 c, h'.2 c]
theorem GroupsR.small {p : Int} {rows : List (List Int)} {own a : List Int} (h : GroupsR p rows own a) : a.length ≤ 1048576 := by
  by_cases c : ValidS p rows own
  · obtain ⟨q, i1, e, h1⟩ := h.1 c
    have := (h1.bounds (by omega)).1
    omega
  · rw [h.2 c]; simp
theorem TurnedR.unique {p : Int} {rows : List (List Int)} {own a b : List Int} (h : TurnedR p rows own a) (h' : TurnedR p rows own b) : a = b := by
  by_cases c : ValidS p rows own
  · obtain ⟨q, i1, e, h1⟩ := h.1 c
    obtain ⟨q', i2, e', h2⟩ := h'.1 c
    obtain rfl : q = q' := by omega
    exact h1.unique h2
  · rw [h.2 c, h'.2 c]
theorem TurnedR.small {p : Int} {rows : List (List Int)} {own a : List Int} (h : TurnedR p rows own a) : a.length ≤ 1048576 := by
  by_cases c : ValidS p rows own
  · obtain ⟨q, i1, e, h1⟩ := h.1 c
    have := (h1.bounds (by omega)).1
    omega
  · rw [h.2 c]; simp
theorem turn_bits : ∀ s : Nat, s < 32 → bits BinOp.andNot IntKind.i64 31 (s : Int) = ((31 - s : Nat) : Int) := by decide +kernel
end Go.Proofs.Ytahgjfmdafhedaa
