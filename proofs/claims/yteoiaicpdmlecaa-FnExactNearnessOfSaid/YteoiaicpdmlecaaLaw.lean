/- append and make, told of slices that own their block. -/
import Derived.Test.YteoiaicpdmlecaaMem
import Derived.Laws.AppendOwnNone
namespace Go.Proofs.Yteoiaicpdmlecaa
open Go.RowKit
set_option linter.unusedVariables false

/-- Slices of type t have elements of type e, one cell each, of at most 24 bytes, with the zero value z. -/
def OneTy (P : Program) (t e : TypeId) (z : Value) : Prop :=
  ∃ i, P.underlying t = some (.slice e) ∧ P.info? e = some i ∧ i.zero = some z ∧ i.size = 1 ∧ i.bytes ≤ 24 ∧ z.cells = #[z]

theorem OneTy.mk {P : Program} {t e : TypeId} {z : Value} {n b : Nat} (h : P.underlying t = some (.slice e)) (hi : (P.info? e).map (fun i => (i.zero, i.size, i.bytes)) = some (some z, n, b)) (hn : n = 1) (hb : b ≤ 24) (hz : z.cells = #[z]) : OneTy P t e z := by
  obtain ⟨i, h1, h2, h3, h4⟩ := info_parts hi
  exact ⟨i, h, h1, h2, by omega, by omega, hz⟩

theorem size_zero1 (z : Value) (hz : z.cells = #[z]) (n : Nat) : (Builtin.zeroCells z.cells n).size = n := by
  rw [size_zeroCells, hz]; simp

/-- append(v, src...) on a slice that owns its block (or is nil). -/
theorem run_app {P : Program} (w : World) {t ty e : TypeId} {z : Value} (T : OneTy P t e z) {v : Value} {xs : List Value} (hv : Own w e v xs)
    (so : Option Addr) (m c : Nat) (news : List Value) (hl : news.length = m) (hnil : so = none → m = 0 ∧ c = 0)
    (hnews : ∀ ad, so = some ad → ∀ j u, news[j]? = some u → w.cell? (ad.add j) = some u) (h1 : ∀ u ∈ news, u.oneCell' = true) (hb : xs.length + m ≤ 1099511627776) :
    ∃ v' w', (Builtin.append_ #[t, t] ty #[v, .slice so m c]).run P w = .ok v' w' ∧ Own w' e v' (xs ++ news) ∧ Chg (fun k => v.ownBlock = some k) w w' ∧
      (∀ g, v'.ownBlock = some g → v.ownBlock = some g ∨ w.heap.size ≤ g) := by
  obtain ⟨i, ht, hi, hz, hs, hby, hzc⟩ := T
  have hbig : (xs.length + m) * i.bytes ≤ 140737488355328 := by
    have := Nat.mul_le_mul hb hby; omega
  cases so with
  | none =>
    obtain ⟨rfl, rfl⟩ := hnil rfl
    obtain rfl : news = [] := List.eq_nil_of_length_eq_zero hl
    refine ⟨v, w, ?_, by simpa using hv, Chg.refl _ _, fun g hg => .inl hg⟩
    rcases hv with ⟨rfl, rfl⟩ | ⟨g, cap, cur, rfl, _, hle, _⟩
    · simp [Builtin.append_, run_underlying ht, sizeOf, typeInfo, hi, Builtin.lenOf, Builtin.firstCells]
    · simp [Builtin.append_, run_underlying ht, sizeOf, typeInfo, hi, Builtin.lenOf, Builtin.firstCells, loadCells, storeCells, hle]
  | some a =>
  have hnews' := hnews a rfl
  rcases hv with ⟨rfl, rfl⟩ | ⟨g, cap, cur, rfl, hg, hnc, hcm, hcs, htake⟩
  · by_cases hm : m = 0
    · subst hm
      obtain rfl : news = [] := List.eq_nil_of_length_eq_zero hl
      refine ⟨.slice none 0 0, w, ?_, Own.nil _ _, Chg.refl _ _, fun g hg => .inl hg⟩
      simp [Builtin.append_, run_underlying ht, sizeOf, typeInfo, hi, Builtin.lenOf, Builtin.firstCells, loadCells, loadCellsFrom]
    · have hr := run_append_nil (P := P) w t ty e i z ht hi hz a m c news (by rw [hs]; omega) hnews' (by omega) (by omega) (by have := hbig; simp at this; omega)
      have hge := grownCap_ge w m 0 e
      have hcm : grownCap w m 0 e ≤ maxLen := grownCap_le_maxLen w m 0 e (by simp only [maxLen]; simp at hb; omega)
      refine ⟨_, _, hr, .inr ⟨w.heap.size, _, _, by simp [hl], heap_alloc_new w.drew _, by simp; omega, hcm, ?_, ?_⟩, ⟨rfl, rfl, rfl, by simp, fun k hk _ => Below.heap_alloc w.drew _ k hk⟩, fun g hg => ?_⟩
      · rw [Array.size_append, size_zero1 z hzc]; simp; omega
      · simp
      · simp [Value.ownBlock] at hg; exact .inr (by omega)
  · by_cases hroom : xs.length + m ≤ cap
    · have hr := run_append_room (P := P) w t ty e i ht hi g xs.length cap cur hg a m c news (by rw [hs]; omega) hnews' h1 hroom (by rw [hs, hl]; omega)
      refine ⟨_, _, hr, .inr ⟨g, cap, _, by simp [hl], setRow_heap w g cur _ e _ hg, by simp; omega, hcm, ?_, ?_⟩, ⟨rfl, rfl, rfl, by simp [World.setRow], fun k _ hk => setRow_other w g k _ (fun e => hk (by simp [Value.ownBlock, e]))⟩, fun g' hg' => .inl (by simpa [Value.ownBlock] using hg')⟩
      · simp only [List.size_toArray, List.length_append, List.length_take, List.length_drop, Array.length_toList, hs, hl]
        omega
      · rw [hs, Nat.mul_one, htake]
        exact List.take_left
    · have holds : ∀ j u, xs[j]? = some u → w.cell? ((⟨g, 0, none⟩ : Addr).add j) = some u := by
        intro j u hu
        have hj : j < xs.length := (List.getElem?_eq_some_iff.1 hu).1
        rw [Addr.add_lit, Nat.zero_add, cell_of_heap hg, take_get htake hj, gv_lt hj]
        rw [List.getElem?_eq_getElem hj] at hu; exact hu
      have hr := run_append_grow (P := P) w t ty e i z ht hi hz ⟨g, 0, none⟩ xs.length cap xs (by rw [hs]; omega) holds a m c news (by rw [hs]; omega) hnews' (by omega) (by omega) (growslice_fits (by omega) hbig)
      have hge := grownCap_ge w (xs.length + m) cap e
      have hcm' : grownCap w (xs.length + m) cap e ≤ maxLen := grownCap_le_maxLen w (xs.length + m) cap e (by simp only [maxLen]; omega)
      refine ⟨_, _, hr, .inr ⟨w.heap.size, _, _, by simp [hl], heap_alloc_new w.drew _, by simp; omega, hcm', ?_, ?_⟩, ⟨rfl, rfl, rfl, by simp, fun k hk _ => Below.heap_alloc w.drew _ k hk⟩, fun g hg => ?_⟩
      · rw [Array.size_append, size_zero1 z hzc]; simp; omega
      · rw [Array.toList_append, Array.toList_append]
        show List.take (xs ++ news).length ((xs ++ news) ++ _) = _
        exact List.take_left
      · simp [Value.ownBlock] at hg; exact .inr (by omega)

theorem wpList_app {P : Program} {w : World} {ops : Array Oper} {rest : List Oper} {o : Oper} {a : Act} {Q : Exit → Act → World → Prop} (hgd : o.guard = none) (s x : Operand) (t : TypeId)
    (ho : o.op = .call { callee := .builtin .append, args := #[s, x], argTypes := #[t, t] })
    {e : TypeId} {z : Value} (T : OneTy P t e z) {v : Value} {xs : List Value} (hv : Own w e v xs) (hs : a.eval s = v)
    (so : Option Addr) (m c : Nat) (news : List Value) (hx : a.eval x = .slice so m c) (hl : news.length = m) (hnil : so = none → m = 0 ∧ c = 0)
    (hnews : ∀ ad, so = some ad → ∀ j u, news[j]? = some u → w.cell? (ad.add j) = some u) (h1 : ∀ u ∈ news, u.oneCell' = true) (hb : xs.length + m ≤ 1099511627776)
    (h : ∀ v' w', Own w' e v' (xs ++ news) → Chg (fun k => v.ownBlock = some k) w w' → (∀ g, v'.ownBlock = some g → v.ownBlock = some g ∨ w.heap.size ≤ g) → wpList P ops Q rest (a.put o.dst v') w') :
    wpList P ops Q (o :: rest) a w := by
  refine wpList_plain hgd fun K hK => ?_
  obtain ⟨v', w', hr, h2, h3, h4⟩ := run_app (P := P) w (ty := o.type) T hv so m c news hl hnil hnews h1 hb
  unfold Oper.wp execOp
  simp only [ho, resolve, invoke, builtin, Sem.run_bind, Sem.run_pure, Result.andThen_ok, List.map_toArray, List.map_cons, List.map_nil, hs, hx, hr]
  exact hK _ _ (h v' w' h2 h3 h4)

/-- append(v, x) of one value, which the translation lays in a new block of its own first. -/
theorem wpList_app1 {P : Program} {w : World} {ops : Array Oper} {rest : List Oper} {o : Oper} {a : Act} {Q : Exit → Act → World → Prop} (hgd : o.guard = none) (s x : Operand) (t : TypeId)
    (ho : o.op = .call { callee := .builtin .append, args := #[s, x], argTypes := #[t, t] })
    {e : TypeId} {z : Value} (T : OneTy P t e z) {v : Value} {xs : List Value} (w0 : World) (hv : Own w0 e v xs) (hs : a.eval s = v)
    (u : Value) (e' : TypeId) (hw : w = w0.alloc (.cells #[u] e')) (hx : a.eval x = .slice (some ⟨w0.heap.size, 0, none⟩) 1 1) (h1 : u.oneCell' = true) (hb : xs.length + 1 ≤ 1099511627776)
    (h : ∀ v' w', Own w' e v' (xs ++ [u]) → Chg (fun k => v.ownBlock = some k) w0 w' → (∀ g, v'.ownBlock = some g → v.ownBlock = some g ∨ w0.heap.size ≤ g) → wpList P ops Q rest (a.put o.dst v') w') :
    wpList P ops Q (o :: rest) a w := by
  subst hw
  refine wpList_app hgd s x t ho T (hv.new (New.alloc _ _)) hs (some ⟨w0.heap.size, 0, none⟩) 1 1 [u] hx rfl (by simp) ?_ (by simpa using h1) hb (fun v' w' k1 k2 k3 => h v' w' k1 (Chg.trans (New.alloc _ _) k2 (fun _ _ x => x.elim) (fun _ _ x => x)) (fun g hg => ?_))
  · intro ad had j y hj
    obtain rfl := Option.some.inj had
    match j, hj with
    | 0, hj =>
      simp at hj; subst hj
      rw [Addr.add_lit, Nat.zero_add, cell_of_heap (heap_alloc_new w0 _)]; rfl
  · rcases k3 g hg with k | k
    · exact .inl k
    · simp at k; exact .inr (by omega)

theorem made1 (z : Value) (hz : z.cells = #[z]) (n : Nat) : (madeCells z.cells n).toList = List.replicate n z := by
  apply List.ext_getElem
  · simp [madeCells]
  · intro i h1 h2
    simp [madeCells, hz]
    rw [Nat.mod_one]
    simp

/-- make([]T, n) -/
theorem wpList_mk {P : Program} {w : World} {ops : Array Oper} {rest : List Oper} {o : Oper} {a : Act} {Q : Exit → Act → World → Prop} (hgd : o.guard = none) (l c : Operand) (t : TypeId) (ho : o.op = .makeSlice t l c)
    {e : TypeId} {z : Value} (T : OneTy P t e z) (kl kc : IntKind) (L C : Int) (n m : Nat) (hl : a.eval l = .int kl L) (hc : a.eval c = .int kc C) (hn : L = n) (hC : C = m) (hnm : n ≤ m) (hb : m ≤ 1099511627776)
    (h : ∀ v w', v = .slice (some ⟨w.heap.size, 0, none⟩) n m → Own w' e v (List.replicate n z) → New w w' → w.heap.size < w'.heap.size → wpList P ops Q rest (a.put o.dst v) w') :
    wpList P ops Q (o :: rest) a w := by
  subst hn hC
  obtain ⟨i, ht, hi, hz, hs, hby, hzc⟩ := T
  refine wpList_plain hgd fun K hK => ?_
  have hbig : i.bytes * m ≤ 281474976710656 := by have := Nat.mul_le_mul hby hb; omega
  have hr := run_make (P := P) w t e i z ht hi hz kl kc (n : Int) (m : Int) (by omega) (by omega) (Int.ofNat_le.2 hbig) (by omega)
  unfold Oper.wp execOp
  simp only [ho, Sem.run_bind, Sem.run_pure, Result.andThen_ok, hl, hc, hr]
  rw [Int.toNat_natCast, Int.toNat_natCast]
  refine hK _ _ (h _ _ rfl (.inr ⟨w.heap.size, m, madeCells z.cells (m * i.size), by rw [List.length_replicate], heap_alloc_new w _, by rw [List.length_replicate]; exact hnm, by simp only [maxLen]; omega, by simp only [madeCells, Array.size_map, Array.size_range, hs]; omega, ?_⟩) (New.alloc _ _) (Nat.lt_of_lt_of_eq (Nat.lt_succ_self _) (World.size_alloc _ _).symm))
  rw [hs, List.length_replicate, Nat.mul_one, made1 z hzc, List.take_replicate, Nat.min_eq_left hnm]
end Go.Proofs.Yteoiaicpdmlecaa
