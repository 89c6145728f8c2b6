/- What slices in memory hold, and how memory turns: the words that all walks of this seat use. -/
import Derived.WalkKit
import Derived.WalkSpells
import Derived.WalkLawsBesides
import Derived.Deep.LoopGhost
import Derived.Lib.Hide
import Derived.ArgAppend
namespace Go.Proofs.Yteoiaicpdmlecaa
open Go.RowKit
set_option linter.unusedVariables false

/-- The i-th number, 0 beyond the end. -/
def gi (xs : List Int) (i : Nat) : Int := xs.getD i 0
/-- The i-th row, none beyond the end. -/
def gr (xs : List (List Int)) (i : Nat) : List Int := xs.getD i []
/-- The i-th value. -/
def gv (xs : List Value) (i : Nat) : Value := xs.getD i undef

theorem gi_lt {xs : List Int} {i : Nat} (h : i < xs.length) : gi xs i = xs[i] := by simp [gi, h]
theorem gr_lt {xs : List (List Int)} {i : Nat} (h : i < xs.length) : gr xs i = xs[i] := by simp [gr, h]
theorem gv_lt {xs : List Value} {i : Nat} (h : i < xs.length) : gv xs i = xs[i] := by simp [gv, h]

/-- Of the blocks that were there, those outside S are as they were. -/
structure Chg (S : Nat → Prop) (w w' : World) : Prop where
  os : w'.os = w.os
  tape : w'.tape = w.tape
  output : w'.output = w.output
  size : w.heap.size ≤ w'.heap.size
  block : ∀ k, k < w.heap.size → ¬ S k → w'.heap[k]? = w.heap[k]?

/-- Nothing that was there has turned. -/
abbrev New (w w' : World) : Prop := Chg (fun _ => False) w w'

theorem Chg.refl (S : Nat → Prop) (w : World) : Chg S w w := ⟨rfl, rfl, rfl, Nat.le_refl _, fun _ _ _ => rfl⟩

theorem Chg.trans {S T U : Nat → Prop} {a b c : World} (h : Chg S a b) (k : Chg T b c) (hS : ∀ i, i < a.heap.size → S i → U i) (hT : ∀ i, i < a.heap.size → T i → U i) : Chg U a c :=
  ⟨k.os.trans h.os, k.tape.trans h.tape, k.output.trans h.output, Nat.le_trans h.size k.size,
    fun i hi hU => (k.block i (Nat.lt_of_lt_of_le hi h.size) (fun x => hU (hT i hi x))).trans (h.block i hi (fun x => hU (hS i hi x)))⟩

theorem Chg.mono {S T : Nat → Prop} {a b : World} (h : Chg S a b) (hS : ∀ i, i < a.heap.size → S i → T i) : Chg T a b :=
  ⟨h.os, h.tape, h.output, h.size, fun i hi hT => h.block i hi (fun x => hT (hS i hi x))⟩

theorem New.trans {a b c : World} (h : New a b) (k : New b c) : New a c := Chg.trans h k (fun _ _ x => x) (fun _ _ x => x)

/-- A step that turns only what is newer than a. -/
theorem New.then {S : Nat → Prop} {a b c : World} (h : New a b) (k : Chg S b c) (hS : ∀ i, S i → a.heap.size ≤ i) : New a c :=
  Chg.trans h k (fun _ _ x => x) (fun i hi x => by have := hS i x; omega)

theorem New.alloc (w : World) (o : Obj) : New w (w.alloc o) :=
  ⟨rfl, rfl, rfl, by simp, fun k hk _ => Below.heap_alloc w o k hk⟩

theorem Chg.alloc {S : Nat → Prop} {a w : World} (h : Chg S a w) (o : Obj) : Chg S a (w.alloc o) :=
  Chg.trans h (New.alloc w o) (fun _ _ x => x) (fun _ _ x => x.elim)

theorem New.drew (w : World) : New w w.drew := ⟨rfl, rfl, rfl, Nat.le_refl _, fun _ _ _ => rfl⟩

theorem New.drewN (w : World) (n : Nat) : New w (w.drewN n) := ⟨rfl, rfl, rfl, Nat.le_refl _, fun _ _ _ => rfl⟩

theorem Chg.setCell (w : World) (a : Addr) (u : Value) : Chg (· = a.block) w (w.setCell a u) :=
  ⟨rfl, rfl, rfl, by simp [World.setCell], fun k _ hk => Below.heap_setCell _ _ _ _ hk⟩

theorem Chg.below {w w' : World} (h : New w w') : Below w.heap.size w w' :=
  ⟨h.os, h.tape, h.output, h.size, fun k hk => h.block k hk (fun x => x)⟩

theorem Chg.of_grown {w w' : World} {row : Option Nat} (h : w.grownBy w' row) : Chg (fun k => row = some k) w w' :=
  ⟨h.os, h.tape, h.output, h.size, fun k hk hr => h.block k hk (fun e => hr e.symm)⟩

theorem Chg.of_below {w w' : World} (h : Below w.heap.size w w') : New w w' :=
  ⟨h.os, h.tape, h.output, h.size, fun k hk _ => h.block k hk⟩

theorem Chg.cell {S : Nat → Prop} {w w' : World} (h : Chg S w w') {a : Addr} {v : Value} (hc : w.cell? a = some v) (hS : ¬ S a.block) : w'.cell? a = some v :=
  (World.cell?_of_block (w := w) (h.block a.block (World.block_lt_of_cell? w a hc) hS)).trans hc

theorem Chg.cellNew {w w' : World} (h : New w w') {a : Addr} {v : Value} (hc : w.cell? a = some v) : w'.cell? a = some v := h.cell hc (fun x => x)

theorem Chg.heapAt {S : Nat → Prop} {w w' : World} (h : Chg S w w') {g : Nat} {o : Obj} (hc : w.heap[g]? = some o) (hS : ¬ S g) : w'.heap[g]? = some o :=
  (h.block g (Array.getElem?_eq_some_iff.1 hc).1 hS).trans hc

theorem cell_of_heap {w : World} {g : Nat} {cur : Array Value} {e : TypeId} {fz : Nat × Nat} (h : w.heap[g]? = some (.cells cur e fz)) (j : Nat) : w.cell? ⟨g, j, none⟩ = cur[j]? := by
  simp [World.cell?, h]

theorem frozen_of_heap {w : World} {g : Nat} {cur : Array Value} {e : TypeId} (h : w.heap[g]? = some (.cells cur e (0, 0))) (j : Nat) : w.frozen? ⟨g, j, none⟩ = false := by
  simp [World.frozen?, h]

/-- A length that is no trouble. -/
def Mid (n : Nat) : Prop := n ≤ 1099511627776

/-- v reads as the numbers xs. -/
def IsI (w : World) (v : Value) (xs : List Int) : Prop :=
  ∃ ao cap, v = .slice ao xs.length cap ∧ (xs.length ≤ cap ∧ (ao = none → cap = 0)) ∧ cap ≤ maxLen ∧ Mid xs.length ∧
    ∀ i, i < xs.length → ∃ b o, ao = some ⟨b, o, none⟩ ∧ w.cell? ⟨b, o + i, none⟩ = some (.int .i64 (gi xs i))

theorem IsI.chg {S : Nat → Prop} {w w' : World} {v : Value} {xs : List Int} (h : IsI w v xs) (hc : Chg S w w') (hS : ∀ g, v.ownBlock = some g → ¬ S g) : IsI w' v xs := by
  obtain ⟨ao, cap, rfl, h1, h2, hm, h3⟩ := h
  refine ⟨ao, cap, rfl, h1, h2, hm, fun i hi => ?_⟩
  obtain ⟨b, o, rfl, hcell⟩ := h3 i hi
  exact ⟨b, o, rfl, hc.cell hcell (hS b rfl)⟩

theorem IsI.new {w w' : World} {v : Value} {xs : List Int} (h : IsI w v xs) (hc : New w w') : IsI w' v xs := h.chg hc (fun _ _ x => x)

/-- v reads as rows of numbers. -/
def IsR (w : World) (v : Value) (rows : List (List Int)) : Prop :=
  ∃ ao cap, v = .slice ao rows.length cap ∧ (rows.length ≤ cap ∧ (ao = none → cap = 0)) ∧ cap ≤ maxLen ∧ Mid rows.length ∧
    ∀ i, i < rows.length → ∃ b o u, ao = some ⟨b, o, none⟩ ∧ w.cell? ⟨b, o + i, none⟩ = some u ∧ IsI w u (gr rows i)

theorem IsR.new {w w' : World} {v : Value} {rows : List (List Int)} (h : IsR w v rows) (hc : New w w') : IsR w' v rows := by
  obtain ⟨ao, cap, rfl, h1, h2, hm, h3⟩ := h
  refine ⟨ao, cap, rfl, h1, h2, hm, fun i hi => ?_⟩
  obtain ⟨b, o, u, rfl, hcell, hu⟩ := h3 i hi
  exact ⟨b, o, u, rfl, hc.cell hcell (fun x => x), hu.new hc⟩

/-- IsI laid open: the shape, the length by a name of its own. -/
theorem IsI.opened {w : World} {v : Value} {xs : List Int} (h : IsI w v xs) : ∃ ao n cap, v = .slice ao n cap ∧ Hid (n = xs.length) ∧ n ≤ cap ∧ n ≤ 1099511627776 ∧ Hid (cap ≤ maxLen) ∧
    ∀ i, i < n → ∃ b o, ao = some ⟨b, o, none⟩ ∧ w.cell? ⟨b, o + i, none⟩ = some (.int .i64 (gi xs i)) := by
  obtain ⟨ao, cap, rfl, h1, h2, hm, h3⟩ := h
  exact ⟨ao, _, cap, rfl, rfl, h1.1, hm, h2, h3⟩

theorem IsR.opened {w : World} {v : Value} {rows : List (List Int)} (h : IsR w v rows) : ∃ ao n cap, v = .slice ao n cap ∧ Hid (n = rows.length) ∧ n ≤ cap ∧ n ≤ 1099511627776 ∧ Hid (cap ≤ maxLen) ∧
    ∀ i, i < n → ∃ b o u, ao = some ⟨b, o, none⟩ ∧ w.cell? ⟨b, o + i, none⟩ = some u ∧ IsI w u (gr rows i) := by
  obtain ⟨ao, cap, rfl, h1, h2, hm, h3⟩ := h
  exact ⟨ao, _, cap, rfl, rfl, h1.1, hm, h2, h3⟩

theorem IsI.len {w : World} {ao : Option Addr} {n cap : Nat} {xs : List Int} (h : IsI w (.slice ao n cap) xs) : n = xs.length := by
  obtain ⟨ao, cap, e, _⟩ := h
  simp at e; exact e.2.1

theorem IsR.len {w : World} {ao : Option Addr} {n cap : Nat} {xs : List (List Int)} (h : IsR w (.slice ao n cap) xs) : n = xs.length := by
  obtain ⟨ao, cap, e, _⟩ := h
  simp at e; exact e.2.1

theorem IsI.at {w : World} {ao : Option Addr} {n cap : Nat} {xs : List Int} (h : IsI w (.slice ao n cap) xs) {i : Nat} (hi : i < n) :
    ∃ b o, ao = some ⟨b, o, none⟩ ∧ w.cell? ⟨b, o + i, none⟩ = some (.int .i64 (gi xs i)) := by
  obtain ⟨ao', cap', e, _, _, _, h3⟩ := h
  simp at e
  obtain ⟨rfl, rfl, rfl⟩ := e
  exact h3 i hi

theorem IsR.at {w : World} {ao : Option Addr} {n cap : Nat} {xs : List (List Int)} (h : IsR w (.slice ao n cap) xs) {i : Nat} (hi : i < n) :
    ∃ b o u, ao = some ⟨b, o, none⟩ ∧ w.cell? ⟨b, o + i, none⟩ = some u ∧ IsI w u (gr xs i) := by
  obtain ⟨ao', cap', e, _, _, _, h3⟩ := h
  simp at e
  obtain ⟨rfl, rfl, rfl⟩ := e
  exact h3 i hi

theorem IsI.nilCap {w : World} {n cap : Nat} {xs : List Int} (h : IsI w (.slice none n cap) xs) : n = 0 ∧ cap = 0 := by
  obtain ⟨ao', cap', e, h1, _⟩ := h
  simp at e
  obtain ⟨rfl, rfl, rfl⟩ := e
  have := h1.2 rfl
  omega

theorem IsR.nilCap {w : World} {n cap : Nat} {xs : List (List Int)} (h : IsR w (.slice none n cap) xs) : n = 0 ∧ cap = 0 := by
  obtain ⟨ao', cap', e, h1, _⟩ := h
  simp at e
  obtain ⟨rfl, rfl, rfl⟩ := e
  have := h1.2 rfl
  omega

/-- The shape alone. -/
theorem IsI.shape {w : World} {v : Value} {xs : List Int} (h : IsI w v xs) : ∃ ao n cap, v = .slice ao n cap ∧ Hid (n = xs.length) ∧ n ≤ 1099511627776 := by
  obtain ⟨ao, cap, rfl, h1, h2, hm, h3⟩ := h
  exact ⟨ao, _, cap, rfl, rfl, hm⟩

theorem IsR.shape {w : World} {v : Value} {rows : List (List Int)} (h : IsR w v rows) : ∃ ao n cap, v = .slice ao n cap ∧ Hid (n = rows.length) ∧ n ≤ 1099511627776 := by
  obtain ⟨ao, cap, rfl, h1, h2, hm, h3⟩ := h
  exact ⟨ao, _, cap, rfl, rfl, hm⟩

/-- v is a slice of the elements xs, at the head of a block of its own that may be written. -/
def Own (w : World) (e : TypeId) (v : Value) (xs : List Value) : Prop :=
  (v = .slice none 0 0 ∧ xs = []) ∨
  ∃ g cap cur, v = .slice (some ⟨g, 0, none⟩) xs.length cap ∧ w.heap[g]? = some (.cells cur e (0, 0)) ∧ xs.length ≤ cap ∧ cap ≤ maxLen ∧ cap ≤ cur.size ∧ cur.toList.take xs.length = xs

theorem Own.chg {S : Nat → Prop} {w w' : World} {e : TypeId} {v : Value} {xs : List Value} (h : Own w e v xs) (hc : Chg S w w') (hS : ∀ g, v.ownBlock = some g → ¬ S g) : Own w' e v xs := by
  rcases h with h | ⟨g, cap, cur, rfl, hg, r⟩
  · exact .inl h
  · exact .inr ⟨g, cap, cur, rfl, hc.heapAt hg (hS g rfl), r⟩

theorem Own.new {w w' : World} {e : TypeId} {v : Value} {xs : List Value} (h : Own w e v xs) (hc : New w w') : Own w' e v xs := h.chg hc (fun _ _ x => x)

theorem Own.lt {w : World} {e : TypeId} {v : Value} {xs : List Value} (h : Own w e v xs) {g : Nat} (hg : v.ownBlock = some g) : g < w.heap.size := by
  rcases h with ⟨rfl, _⟩ | ⟨g', cap, cur, rfl, hh, _⟩
  · simp [Value.ownBlock] at hg
  · simp [Value.ownBlock] at hg
    subst hg
    exact (Array.getElem?_eq_some_iff.1 hh).1

theorem Own.nil (w : World) (e : TypeId) : Own w e (.slice none 0 0) [] := .inl ⟨rfl, rfl⟩

theorem take_get {cur : Array Value} {xs : List Value} (h : cur.toList.take xs.length = xs) {i : Nat} (hi : i < xs.length) : cur[i]? = some (gv xs i) := by
  rw [gv_lt hi]
  have h1 : (cur.toList.take xs.length)[i]? = xs[i]? := by rw [h]
  rw [List.getElem?_take, if_pos hi, List.getElem?_eq_getElem hi, Array.getElem?_toList] at h1
  exact h1

theorem Own.cell {w : World} {e : TypeId} {xs : List Value} {g n cap : Nat} (h : Own w e (.slice (some ⟨g, 0, none⟩) n cap) xs) {i : Nat} (hi : i < xs.length) :
    w.cell? ⟨g, i, none⟩ = some (gv xs i) ∧ w.frozen? ⟨g, i, none⟩ = false := by
  rcases h with ⟨h, _⟩ | ⟨g', cap', cur, hv, hh, _, _, _, ht⟩
  · simp at h
  · simp at hv
    obtain ⟨rfl, _, rfl⟩ := hv
    exact ⟨by rw [cell_of_heap hh]; exact take_get ht hi, frozen_of_heap hh i⟩

/-- The shape of what is owned. -/
theorem Own.shape {w : World} {e : TypeId} {v : Value} {xs : List Value} (h : Own w e v xs) (hx : xs ≠ []) : ∃ g cap, v = .slice (some ⟨g, 0, none⟩) xs.length cap ∧ xs.length ≤ cap ∧ cap ≤ maxLen := by
  rcases h with ⟨_, h⟩ | ⟨g, cap, cur, hv, _, h1, h2, _⟩
  · exact absurd h hx
  · exact ⟨g, cap, hv, h1, h2⟩

theorem Own.shape' {w : World} {e : TypeId} {v : Value} {xs : List Value} (h : Own w e v xs) : ∃ ao cap, v = .slice ao xs.length cap ∧ xs.length ≤ cap ∧ cap ≤ maxLen := by
  rcases h with ⟨h, rfl⟩ | ⟨g, cap, cur, hv, _, h1, h2, _⟩
  · exact ⟨none, 0, h, by simp, by simp [maxLen]⟩
  · exact ⟨_, cap, hv, h1, h2⟩

theorem Own.head {w : World} {e : TypeId} {ao : Option Addr} {n cap : Nat} {xs : List Value} (h : Own w e (.slice ao n cap) xs) {i : Nat} (hi : i < xs.length) : ∃ g, ao = some ⟨g, 0, none⟩ := by
  rcases h with ⟨_, h⟩ | ⟨g, cap, cur, hv, _⟩
  · subst h; simp at hi
  · simp at hv; exact ⟨g, hv.1⟩

theorem Own.len {w : World} {e : TypeId} {ao : Option Addr} {n cap : Nat} {xs : List Value} (h : Own w e (.slice ao n cap) xs) : n = xs.length := by
  rcases h with ⟨h, h'⟩ | ⟨g, cap, cur, hv, _⟩
  · simp at h; subst h'; simp [h.2.1]
  · simp at hv; exact hv.2.1

/-- The shape, the length by a name of its own. -/
theorem Own.opened {w : World} {e : TypeId} {v : Value} {xs : List Value} (h : Own w e v xs) (hm : Mid xs.length) : ∃ ao n cap, v = .slice ao n cap ∧ Hid (n = xs.length) ∧ n ≤ 1099511627776 ∧ Hid (n ≤ cap ∧ cap ≤ maxLen) := by
  obtain ⟨ao, cap, rfl, h1, h2⟩ := h.shape'
  exact ⟨ao, _, cap, rfl, rfl, hm, h1, h2⟩

theorem Own.isI {w : World} {e : TypeId} {v : Value} {xs : List Int} (h : Own w e v (xs.map (Value.int .i64))) (hm : Mid xs.length) : IsI w v xs := by
  rcases h with ⟨rfl, h⟩ | ⟨g, cap, cur, rfl, hh, h1, h2, h3, ht⟩
  · simp at h; subst h
    exact ⟨none, 0, rfl, by simp, by simp [maxLen], hm, fun i hi => by simp at hi⟩
  · simp only [List.length_map] at *
    refine ⟨_, cap, rfl, ⟨h1, by simp⟩, h2, hm, fun i hi => ⟨g, 0, rfl, ?_⟩⟩
    rw [Nat.zero_add, cell_of_heap hh, take_get (xs := xs.map (Value.int .i64)) (by simpa using ht) (by simpa using hi), gv_lt (by simpa using hi), gi_lt hi]
    simp

theorem Own.set {w : World} {e : TypeId} {xs : List Value} {g n cap : Nat} (h : Own w e (.slice (some ⟨g, 0, none⟩) n cap) xs) (i : Nat) (u : Value) :
    Own (w.setCell ⟨g, i, none⟩ u) e (.slice (some ⟨g, 0, none⟩) n cap) (xs.set i u) := by
  rcases h with ⟨h, _⟩ | ⟨g', cap', cur, hv, hh, h1, h2, h3, ht⟩
  · simp at h
  · simp at hv
    obtain ⟨rfl, rfl, rfl⟩ := hv
    refine .inr ⟨g, cap, cur.setIfInBounds i u, by simp, ?_, by simpa using h1, h2, by simpa using h3, ?_⟩
    · simp [World.setCell, Array.getElem?_modify, hh]
    · rw [Array.toList_setIfInBounds, List.length_set, List.take_set, ht]

/-- Two values with no block in common. -/
def Apart (u v : Value) : Prop := ∀ g, u.ownBlock = some g → v.ownBlock ≠ some g

theorem Apart.symm {u v : Value} (h : Apart u v) : Apart v u := fun g hv hu => h g hu hv

/-- A value whose block, if any, is from B on. -/
def From (B : Nat) (v : Value) : Prop := ∀ g, v.ownBlock = some g → B ≤ g

theorem From.mono {B C : Nat} {v : Value} (h : From B v) (hc : C ≤ B) : From C v := fun g hg => Nat.le_trans hc (h g hg)

theorem From.apart {w : World} {e : TypeId} {u v : Value} {xs : List Value} (h : From w.heap.size v) (hu : Own w e u xs) : Apart u v := fun g hg hv => by
  have := hu.lt hg
  have := h g hv
  omega

/-- Rows of numbers, each in a block of its own, in an outer block of its own. -/
structure OwnR (w : World) (eo ei : TypeId) (v : Value) (vs : List Value) (rows : List (List Int)) : Prop where
  outer : Own w eo v vs
  len : vs.length = rows.length
  inner : ∀ i, i < rows.length → Own w ei (gv vs i) ((gr rows i).map (Value.int .i64))
  apart : ∀ i j, i < rows.length → j < rows.length → i ≠ j → Apart (gv vs i) (gv vs j)

theorem OwnR.chg {S : Nat → Prop} {w w' : World} {eo ei : TypeId} {v : Value} {vs : List Value} {rows : List (List Int)} (h : OwnR w eo ei v vs rows) (hc : Chg S w w')
    (hS : ∀ g, v.ownBlock = some g → ¬ S g) (hS' : ∀ i, i < rows.length → ∀ g, (gv vs i).ownBlock = some g → ¬ S g) : OwnR w' eo ei v vs rows :=
  ⟨h.outer.chg hc hS, h.len, fun i hi => (h.inner i hi).chg hc (hS' i hi), h.apart⟩

theorem OwnR.new {w w' : World} {eo ei : TypeId} {v : Value} {vs : List Value} {rows : List (List Int)} (h : OwnR w eo ei v vs rows) (hc : New w w') : OwnR w' eo ei v vs rows :=
  h.chg hc (fun _ _ x => x) (fun _ _ _ _ x => x)

/-- The outer block is none of the inner ones (their elements' types part). -/
theorem OwnR.outer_apart {w : World} {eo ei : TypeId} {v : Value} {vs : List Value} {rows : List (List Int)} (h : OwnR w eo ei v vs rows) (hne : eo ≠ ei) {i : Nat} (hi : i < rows.length) : Apart v (gv vs i) := by
  intro g hg hg'
  have h1 := h.outer
  have h2 := h.inner i hi
  rcases h1 with ⟨rfl, _⟩ | ⟨g1, c1, cur1, rfl, hh1, _⟩
  · simp [Value.ownBlock] at hg
  · rcases h2 with ⟨h2, _⟩ | ⟨g2, c2, cur2, h2, hh2, _⟩
    · rw [h2] at hg'; simp [Value.ownBlock] at hg'
    · rw [h2] at hg'
      simp [Value.ownBlock] at hg hg'
      subst hg; subst hg'
      rw [hh1] at hh2
      simp at hh2
      exact hne hh2.2

theorem OwnR.isR {w : World} {eo ei : TypeId} {v : Value} {vs : List Value} {rows : List (List Int)} (h : OwnR w eo ei v vs rows) (hm : Mid rows.length) (hms : ∀ i, i < rows.length → Mid (gr rows i).length) : IsR w v rows := by
  obtain ⟨h1, h2, h3, _⟩ := h
  rcases h1 with ⟨rfl, h⟩ | ⟨g, cap, cur, rfl, hh, ha, hb, hc, ht⟩
  · subst h
    have h0 : rows.length = 0 := by simpa using h2.symm
    exact ⟨none, 0, by rw [h0], ⟨by omega, by simp⟩, by simp [maxLen], hm, fun i hi => by omega⟩
  · refine ⟨_, cap, by rw [h2], ⟨by omega, by simp⟩, hb, hm, fun i hi => ⟨g, 0, gv vs i, rfl, ?_, (h3 i hi).isI (hms i hi)⟩⟩
    rw [Nat.zero_add, cell_of_heap hh]
    exact take_get ht (by omega)

/-- The i-th row has turned, all else stands. -/
theorem OwnR.turn {S : Nat → Prop} {w w' : World} {eo ei : TypeId} {v : Value} {vs : List Value} {rows : List (List Int)} (h : OwnR w eo ei v vs rows) (hne : eo ≠ ei) {i : Nat} (hi : i < rows.length)
    (hc : Chg S w w') (hS : ∀ g, S g → (gv vs i).ownBlock = some g) {xs : List Int} (hx : Own w' ei (gv vs i) (xs.map (Value.int .i64))) : OwnR w' eo ei v vs (rows.set i xs) := by
  refine ⟨h.outer.chg hc (fun g hg hs => h.outer_apart hne hi g hg (hS g hs)), by simpa using h.len, fun j hj => ?_, fun a b ha hb => h.apart a b (by simpa using ha) (by simpa using hb)⟩
  simp only [List.length_set] at hj
  by_cases e : i = j
  · subst e
    rw [gr_lt (by simpa using hj), List.getElem_set_self]
    exact hx
  · rw [gr_lt (by simpa using hj), List.getElem_set_ne e, ← gr_lt hj]
    exact (h.inner j hj).chg hc (fun g hg hs => h.apart i j hi hj e g (hS g hs) hg)

/-- A row more. -/
theorem OwnR.snoc {w : World} {eo ei : TypeId} {v u : Value} {vs : List Value} {rows : List (List Int)} {xs : List Int} (hv : Own w eo v (vs ++ [u])) (hl : vs.length = rows.length)
    (hin : ∀ i, i < rows.length → Own w ei (gv vs i) ((gr rows i).map (Value.int .i64))) (hap : ∀ i j, i < rows.length → j < rows.length → i ≠ j → Apart (gv vs i) (gv vs j))
    (hu : Own w ei u (xs.map (Value.int .i64))) (hua : ∀ i, i < rows.length → Apart (gv vs i) u) : OwnR w eo ei v (vs ++ [u]) (rows ++ [xs]) := by
  have e1 : ∀ i, i < rows.length → gv (vs ++ [u]) i = gv vs i := fun i hi => by
    rw [gv_lt (by simp; omega), gv_lt (by omega), List.getElem_append_left (by omega)]
  have e2 : gv (vs ++ [u]) rows.length = u := by rw [gv_lt (by simp; omega)]; simp [← hl]
  have e3 : ∀ i, i < rows.length → gr (rows ++ [xs]) i = gr rows i := fun i hi => by
    rw [gr_lt (by simp; omega), gr_lt (by omega), List.getElem_append_left (by omega)]
  have e4 : gr (rows ++ [xs]) rows.length = xs := by rw [gr_lt (by simp)]; simp
  refine ⟨hv, by simp [hl], fun i hi => ?_, fun i j hi hj hne => ?_⟩
  · simp at hi
    by_cases h : i < rows.length
    · rw [e1 i h, e3 i h]; exact hin i h
    · obtain rfl : i = rows.length := by omega
      rw [e2, e4]; exact hu
  · simp at hi hj
    by_cases h : i < rows.length
    · by_cases h' : j < rows.length
      · rw [e1 i h, e1 j h']; exact hap i j h h' hne
      · obtain rfl : j = rows.length := by omega
        rw [e1 i h, e2]; exact hua i h
    · obtain rfl : i = rows.length := by omega
      have h' : j < rows.length := by omega
      rw [e1 j h', e2]; exact (hua j h').symm
end Go.Proofs.Yteoiaicpdmlecaa
