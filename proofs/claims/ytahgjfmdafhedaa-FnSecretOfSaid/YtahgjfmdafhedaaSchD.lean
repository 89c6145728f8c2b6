/- Schemes as they are built: their blocks. -/
import Derived.Test.YtahgjfmdafhedaaSchA
import Derived.Test.YtahgjfmdafhedaaGens
namespace Go.Proofs.Ytahgjfmdafhedaa
open Go.RowKit
set_option linter.unusedVariables false

theorem chg3 (w : World) (g : Nat) (x y z : Value) : Chg (· = g) w (((w.setCell ⟨g, 0, none⟩ x).setCell ⟨g, 1, none⟩ y).setCell ⟨g, 2, none⟩ z) := by
  have h1 : Chg (· = g) w (w.setCell ⟨g, 0, none⟩ x) := Chg.setCell w ⟨g, 0, none⟩ x
  have h2 : Chg (· = g) (w.setCell ⟨g, 0, none⟩ x) ((w.setCell ⟨g, 0, none⟩ x).setCell ⟨g, 1, none⟩ y) := Chg.setCell _ ⟨g, 1, none⟩ y
  have h3 : Chg (· = g) ((w.setCell ⟨g, 0, none⟩ x).setCell ⟨g, 1, none⟩ y) (((w.setCell ⟨g, 0, none⟩ x).setCell ⟨g, 1, none⟩ y).setCell ⟨g, 2, none⟩ z) := Chg.setCell _ ⟨g, 2, none⟩ z
  exact Chg.trans (Chg.trans h1 h2 (fun _ _ x => x) (fun _ _ x => x) (U := (· = g))) h3 (fun _ _ x => x) (fun _ _ x => x)
/-- A scheme in a block of its own: its rows and owners, all from w0 on. -/
structure SS (w0 b1 : Nat) (wx : World) (p : Int) (R O : Value) (vs : List Value) (rows : List (List Int)) (own : List Int) : Prop where
  blk : Blk3 wx b1 (.int .i64 p) R O 38
  rown : OwnR wx 23 3 R vs rows
  rfrom : FromR w0 R vs rows
  oown : Own wx 3 O (own.map (Value.int .i64))
  ofrom : From w0 O
  apart : ∀ i, i < rows.length → Apart (gv vs i) O
  base : w0 ≤ b1

section
variable {w0 b1 : Nat} {wx wx' : World} {p : Int} {R O : Value} {vs : List Value} {rows : List (List Int)} {own : List Int}
theorem SS.keep {S : Nat → Prop} (h : SS w0 b1 wx p R O vs rows own) (hc : Chg S wx wx') (hS : ∀ b, S b → b < w0) : SS w0 b1 wx' p R O vs rows own := by
  have hb := h.base
  exact ⟨h.blk.chg hc (fun s => by have := hS _ s; omega), h.rown.chg hc (fun g hg s => by have := hS _ s; have := h.rfrom.1 g hg; omega) (fun i hi g hg s => by have := hS _ s; have := h.rfrom.2 i hi g hg; omega), h.rfrom, h.oown.chg hc (fun g hg s => by have := hS _ s; have := h.ofrom g hg; omega), h.ofrom, h.apart, hb⟩
theorem SS.new (h : SS w0 b1 wx p R O vs rows own) (hn : New wx wx') : SS w0 b1 wx' p R O vs rows own := h.keep hn (fun _ x => x.elim)
theorem SS.size (h : SS w0 b1 wx p R O vs rows own) : w0 ≤ wx.heap.size := Nat.le_of_lt (Nat.lt_of_le_of_lt h.base h.blk.lt)
theorem SS.ne_row (h : SS w0 b1 wx p R O vs rows own) : ∀ b, R.ownBlock = some b → ¬ b = b1 := own_ne_blk3 h.rown.outer h.blk (by decide)
theorem SS.ne_own (h : SS w0 b1 wx p R O vs rows own) : ∀ b, O.ownBlock = some b → ¬ b = b1 := own_ne_blk3 h.oown h.blk (by decide)
theorem SS.first (hb : Blk3 wx b1 (.int .i64 p) (.slice none 0 0) (.slice none 0 0) 38) (h0 : w0 ≤ b1) : SS w0 b1 wx p (.slice none 0 0) (.slice none 0 0) [] [] [] :=
  ⟨hb, ⟨Own.nil _ _, rfl, fun i hi => by simp at hi, fun i j hi => by simp at hi⟩, ⟨fun g hg => by simp [Value.ownBlock] at hg, fun i hi => by simp at hi⟩, Own.nil _ _, fun g hg => by simp [Value.ownBlock] at hg, fun i hi => by simp at hi, h0⟩

/-- The prime is written. -/
theorem SS.prime (h : SS w0 b1 wx p R O vs rows own) (p' : Int) : SS w0 b1 (wx.setCell ⟨b1, 0, none⟩ (.int .i64 p')) p' R O vs rows own := by
  have hc : Chg (· = b1) wx (wx.setCell ⟨b1, 0, none⟩ (.int .i64 p')) := Chg.setCell wx ⟨b1, 0, none⟩ _
  exact ⟨h.blk.set0 _, h.rown.chg hc h.ne_row (fun i hi => own_ne_blk3 (h.rown.inner i hi) h.blk (by decide)), h.rfrom, h.oown.chg hc h.ne_own, h.ofrom, h.apart, h.base⟩
/-- The block after the rows' slice has grown. -/
theorem SS.blk1 {w2 : World} {S : Nat → Prop} (h : SS w0 b1 wx p R O vs rows own) (m2 : Chg S wx w2) (hS : ∀ b, S b → ¬ b = b1) : Blk3 w2 b1 (.int .i64 p) R O 38 := h.blk.chg m2 (fun s => hS b1 s rfl)
/-- A row is laid behind the others. -/
theorem SS.row {w2 : World} {x R2 : Value} {row : List Int} (h : SS w0 b1 wx p R O vs rows own) (hx : Own wx 3 x (row.map (Value.int .i64))) (hf : From w0 x) (ha : ∀ i, i < rows.length → Apart (gv vs i) x) (hao : Apart x O)
    (m1 : Own w2 23 R2 (vs ++ [x])) (m2 : Chg (fun k => R.ownBlock = some k) wx w2) (m3 : ∀ g, R2.ownBlock = some g → R.ownBlock = some g ∨ wx.heap.size ≤ g) :
    SS w0 b1 (w2.setCell ⟨b1, 1, none⟩ R2) p R2 O (vs ++ [x]) (rows ++ [row]) own := by
  have hc : Chg (· = b1) w2 (w2.setCell ⟨b1, 1, none⟩ R2) := Chg.setCell w2 ⟨b1, 1, none⟩ _
  have hb2 := h.blk1 m2 h.ne_row
  have hr2 := OwnR.push' h.rown hx ha m1 m2
  have ho2 := h.oown.chg m2 (fun g hg hs => h.rown.outer.apart_ty h.oown row_ne g hs hg)
  exact ⟨hb2.set1 _, hr2.chg hc (own_ne_blk3 hr2.outer hb2 (by decide)) (fun i hi => own_ne_blk3 (hr2.inner i hi) hb2 (by decide)), FromR.push h.rfrom h.rown.len hf m3 h.size, ho2.chg hc (own_ne_blk3 ho2 hb2 (by decide)), h.ofrom, fun i hi => by
    rw [List.length_append, List.length_singleton] at hi
    by_cases e : i < rows.length
    · rw [gv_snoc_lt (by rw [h.rown.len]; exact e)]; exact h.apart i e
    · rw [gv_snoc_eq (by rw [h.rown.len]; omega)]; exact hao, h.base⟩
/-- The owners' slice is another one. -/
theorem SS.owners {w2 : World} {O2 : Value} {own2 : List Int} (h : SS w0 b1 wx p R O vs rows own) (m1 : Own w2 3 O2 (own2.map (Value.int .i64))) (m2 : Chg (fun k => O.ownBlock = some k) wx w2) (m3 : ∀ g, O2.ownBlock = some g → O.ownBlock = some g ∨ wx.heap.size ≤ g) :
    SS w0 b1 (w2.setCell ⟨b1, 2, none⟩ O2) p R O2 vs rows own2 := by
  have hc : Chg (· = b1) w2 (w2.setCell ⟨b1, 2, none⟩ O2) := Chg.setCell w2 ⟨b1, 2, none⟩ _
  have hb2 := h.blk1 m2 h.ne_own
  have hr2 := h.rown.chg m2 (fun g hg hs => h.rown.outer.apart_ty h.oown row_ne g hg hs) (fun i hi g hg hs => h.apart i hi g hg hs)
  exact ⟨hb2.set2 _, hr2.chg hc (own_ne_blk3 hr2.outer hb2 (by decide)) (fun i hi => own_ne_blk3 (hr2.inner i hi) hb2 (by decide)), h.rfrom, m1.chg hc (own_ne_blk3 m1 hb2 (by decide)), fun g hg => by
    rcases m3 g hg with k | k
    · exact h.ofrom g k
    · exact Nat.le_trans h.size k, fun i hi g hg hg2 => by
    rcases m3 g hg2 with k | k
    · exact h.apart i hi g hg k
    · have := (h.rown.inner i hi).lt hg; omega, h.base⟩
/-- The first owner is written. -/
theorem SS.owner0 {gO l c : Nat} (h : SS w0 b1 wx p R (.slice (some ⟨gO, 0, none⟩) l c) vs rows own) (z : Int) : SS w0 b1 (wx.setCell ⟨gO, 0, none⟩ (.int .i64 z)) p R (.slice (some ⟨gO, 0, none⟩) l c) vs rows (own.set 0 z) := by
  have hc : Chg (· = gO) wx (wx.setCell ⟨gO, 0, none⟩ (.int .i64 z)) := Chg.setCell wx ⟨gO, 0, none⟩ _
  have hset := h.oown.set 0 (.int .i64 z)
  rw [set_map_int] at hset
  exact ⟨h.blk.chg hc (fun e => h.ne_own gO rfl e.symm), h.rown.chg hc (fun g hg e => h.rown.outer.apart_ty h.oown row_ne g hg (by rw [e]; rfl)) (fun i hi g hg e => h.apart i hi g hg (by rw [e]; rfl)), h.rfrom, hset, h.ofrom, h.apart, h.base⟩
/-- The first number of the first row is written. -/
theorem SS.row0 {g0 l c : Nat} (h : SS w0 b1 wx p R O vs rows own) (h0 : 0 < rows.length) (hg : gv vs 0 = .slice (some ⟨g0, 0, none⟩) l c) (z : Int) : SS w0 b1 (wx.setCell ⟨g0, 0, none⟩ (.int .i64 z)) p R O vs (rows.set 0 ((gr rows 0).set 0 z)) own := by
  have hc : Chg (· = g0) wx (wx.setCell ⟨g0, 0, none⟩ (.int .i64 z)) := Chg.setCell wx ⟨g0, 0, none⟩ _
  have hin := h.rown.inner 0 h0
  have hb0 := own_ne_blk3 hin h.blk (by decide)
  rw [hg] at hin hb0
  have hset := hin.set 0 (.int .i64 z)
  rw [set_map_int] at hset
  have ht := h.rown.turn row_ne h0 hc (fun g' e => by rw [hg, e]; rfl) (xs := (gr rows 0).set 0 z) (by rw [hg]; exact hset)
  exact ⟨h.blk.chg hc (fun e => hb0 g0 rfl e.symm), ht, ⟨h.rfrom.1, fun i hi => h.rfrom.2 i (by rw [List.length_set] at hi; exact hi)⟩, h.oown.chg hc (fun g hg2 e => h.apart 0 h0 g (by rw [hg, e]; rfl) hg2), h.ofrom, fun i hi => h.apart i (by rw [List.length_set] at hi; exact hi), h.base⟩
/-- It is laid into another block. -/
theorem SS.move {b2 : Nat} {x y z : Value} (h : SS w0 b1 wx p R O vs rows own) (hb : Blk3 wx b2 x y z 38) (h0 : w0 ≤ b2) : SS w0 b2 (((wx.setCell ⟨b2, 0, none⟩ (.int .i64 p)).setCell ⟨b2, 1, none⟩ R).setCell ⟨b2, 2, none⟩ O) p R O vs rows own := by
  have hc : Chg (· = b2) wx (((wx.setCell ⟨b2, 0, none⟩ (.int .i64 p)).setCell ⟨b2, 1, none⟩ R).setCell ⟨b2, 2, none⟩ O) := chg3 _ _ _ _ _
  exact ⟨((hb.set0 _).set1 _).set2 _, h.rown.chg hc (own_ne_blk3 h.rown.outer hb (by decide)) (fun i hi => own_ne_blk3 (h.rown.inner i hi) hb (by decide)), h.rfrom, h.oown.chg hc (own_ne_blk3 h.oown hb (by decide)), h.ofrom, h.apart, h0⟩
theorem SS.isR (h : SS w0 b1 wx p R O vs rows own) (hl : rows.length ≤ 100) (hm : ∀ i, i < rows.length → (gr rows i).length ≤ 100) : IsR wx R rows := h.rown.isR (by unfold Mid; omega) (fun i hi => by have := hm i hi; unfold Mid; omega)
theorem SS.isI (h : SS w0 b1 wx p R O vs rows own) (hl : own.length ≤ 100) : IsI wx O own := h.oown.isI (by unfold Mid; omega)
end

/-- What is known while a generator builds its scheme. -/
structure ST (g N : Nat) (w wx : World) (b1 : Nat) (p : Int) (R O : Value) (vs : List Value) (rows : List (List Int)) (own : List Int) : Prop where
  rd : Rd wx g N
  chg : Chg (· = g) w wx
  res : Blk3 wx w.heap.size (.int .i64 0) (.slice none 0 0) (.slice none 0 0) 38
  ss : SS (w.heap.size + 1) b1 wx p R O vs rows own
  lt : g < w.heap.size
section
variable {g N : Nat} {w wx wx' : World} {b1 : Nat} {p : Int} {R O : Value} {vs : List Value} {rows : List (List Int)} {own : List Int}
theorem ST.call {M : Nat} (h : ST g N w wx b1 p R O vs rows own) (hr : Rd wx' g M) (hc : Chg (· = g) wx wx') : ST g M w wx' b1 p R O vs rows own := by
  have hl := h.lt
  exact ⟨hr, Chg.trans h.chg hc (fun _ _ x => x) (fun _ _ x => x), h.res.chg hc (fun e => by omega), h.ss.keep hc (fun b e => by omega), hl⟩
theorem ST.new (h : ST g N w wx b1 p R O vs rows own) (hn : New wx wx') : ST g N w wx' b1 p R O vs rows own := by
  have hl := h.lt
  exact ⟨h.rd.new hn, Chg.trans h.chg hn (fun _ _ x => x) (fun _ _ x => x.elim), h.res.new hn, h.ss.new hn, hl⟩
theorem ST.mono {M : Nat} (h : ST g N w wx b1 p R O vs rows own) (hM : N ≤ M) : ST g M w wx b1 p R O vs rows own := ⟨h.rd.mono hM, h.chg, h.res, h.ss, h.lt⟩
/-- Blocks above the result have turned. -/
theorem ST.step {S : Nat → Prop} {b2 : Nat} {p' : Int} {R' O' : Value} {vs' : List Value} {rows' : List (List Int)} {own' : List Int} (h : ST g N w wx b1 p R O vs rows own) (hc : Chg S wx wx') (hS : ∀ b, S b → w.heap.size < b) (hss : SS (w.heap.size + 1) b2 wx' p' R' O' vs' rows' own') : ST g N w wx' b2 p' R' O' vs' rows' own' := by
  have hl := h.lt
  exact ⟨h.rd.chg hc (fun b hb => by have := hS b hb; omega), Chg.trans h.chg hc (fun _ _ x => x) (fun i hi hb => by have := hS i hb; omega), h.res.chg hc (fun hb => by have := hS _ hb; omega), hss, hl⟩
end
/-- It ends with a scheme that may be read, and the reader has gone on. -/
def PicksS (g N : Nat) (w : World) (e : Ending) (w' : World) : Prop :=
  ∃ (p : Int) (a : Option Addr) (l c : Nat) (a' : Option Addr) (l' c' : Nat) (vs : List Value) (rows : List (List Int)) (own : List Int) (b1 : Nat), e = .returned (.agg #[.int .i64 p, .slice a l c, .slice a' l' c']) ∧ SS (w.heap.size + 1) b1 w' p (.slice a l c) (.slice a' l' c') vs rows own ∧ ((1 ≤ rows.length ∧ rows.length ≤ 8) ∧ ∀ i, i < rows.length → 1 ≤ (gr rows i).length ∧ (gr rows i).length ≤ 8) ∧ own.length ≤ 10 ∧ (0 ≤ p ∧ p ≤ 7) ∧ Rd w' g N ∧ Chg (· = g) w w'
theorem picksS_done {g N M : Nat} {w wx : World} {b1 : Nat} {p : Int} {a a' : Option Addr} {l c l' c' : Nat} {vs : List Value} {rows : List (List Int)} {own : List Int} (h : ST g M w wx b1 p (.slice a l c) (.slice a' l' c') vs rows own) (hM : M ≤ N)
    (hl : (1 ≤ rows.length ∧ rows.length ≤ 8) ∧ ∀ i, i < rows.length → 1 ≤ (gr rows i).length ∧ (gr rows i).length ≤ 8) (ho : own.length ≤ 10) (hp : 0 ≤ p ∧ p ≤ 7) :
    PicksS g N w (.returned (.agg #[.int .i64 p, .slice a l c, .slice a' l' c'])) (((wx.setCell ⟨w.heap.size, 0, none⟩ (.int .i64 p)).setCell ⟨w.heap.size, 1, none⟩ (.slice a l c)).setCell ⟨w.heap.size, 2, none⟩ (.slice a' l' c')) := by
  have hc : Chg (· = w.heap.size) wx (((wx.setCell ⟨w.heap.size, 0, none⟩ (.int .i64 p)).setCell ⟨w.heap.size, 1, none⟩ (.slice a l c)).setCell ⟨w.heap.size, 2, none⟩ (.slice a' l' c')) := chg3 _ _ _ _ _
  have hs := h.ss.keep hc (fun b hb => by have h9 : b = w.heap.size := hb; omega)
  have hlt := h.lt
  exact ⟨p, a, l, c, a', l', c', vs, rows, own, b1, rfl, hs, hl, ho, hp, (h.rd.chg hc (fun b hb => by have h9 : b = w.heap.size := hb; omega)).mono hM, Chg.trans h.chg hc (fun _ _ x => x) (fun i hi hb => by have h9 : i = w.heap.size := hb; omega)⟩
end Go.Proofs.Ytahgjfmdafhedaa
