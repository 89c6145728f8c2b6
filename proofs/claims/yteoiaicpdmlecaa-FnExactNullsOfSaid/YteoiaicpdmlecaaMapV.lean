/- A map from numbers to slices, that the call makes: keys and values as lists. -/
import Derived.Test.YteoiaicpdmlecaaLaw
import Derived.Maps.RangeWalk
namespace Go.Proofs.Yteoiaicpdmlecaa
open Go.RowKit
open Go.Maps (Keyed)
set_option linter.unusedVariables false

/-- A slice reads as itself. -/
def slE (v : Value) : Option (DataW Value × List MemPlace) :=
  match v with
  | .slice a n c => some (.held (.slice a n c), [])
  | _ => none
theorem slE_mk (a : Option Addr) (n c : Nat) : slE (.slice a n c) = some (.held (.slice a n c), []) := rfl
theorem slE_inv {v : Value} {y : DataW Value × List MemPlace} (h : slE v = some y) : ∃ a n c, v = .slice a n c ∧ y = (.held (.slice a n c), []) := by
  cases v <;> simp [slE] at h
  exact ⟨_, _, _, rfl, h.symm⟩

/-- Block b is a map of at most n entries with the keys ks and their values vs. -/
def MapIs (P : Program) (k : TypeId) (w : World) (b n : Nat) (ks : List Int) (vs : List Value) : Prop :=
  ∃ D : DataW Value, w.ownsMap P k slE b n D ∧ (∀ x, Maps.has D (.int .i64 x) = decide (x ∈ ks)) ∧ ∀ i, i < ks.length → ∀ zd, D.atKey (.int .i64 (gi ks i)) zd = .held (gv vs i)

/-- .. over which a loop is under way: rem tells which keys are still to come. -/
def RangeIs (P : Program) (k : TypeId) (w : World) (b r n : Nat) (ks : List Int) (vs : List Value) (rem : Int → Bool) (cnt : Nat) : Prop :=
  ∃ (D : DataW Value) (left : Lit → Bool), w.ranges P k slE b r n D left cnt ∧ (∀ x, left (.int .i64 x) = rem x) ∧ (∀ x, rem x = true → x ∈ ks) ∧ (∀ x, Maps.has D (.int .i64 x) = decide (x ∈ ks)) ∧ ∀ i, i < ks.length → ∀ zd, D.atKey (.int .i64 (gi ks i)) zd = .held (gv vs i)

theorem MapIs.made (P : Program) (k : TypeId) (w : World) : MapIs P k (w.alloc (.map #[] 0)) w.heap.size 0 [] [] :=
  ⟨_, World.ownsMap_made w P k slE, fun x => rfl, fun i hi => by simp at hi⟩

theorem MapIs.chg {P : Program} {k : TypeId} {w w' : World} {b n : Nat} {ks : List Int} {vs : List Value} {S : Nat → Prop} (h : MapIs P k w b n ks vs) (hc : Chg S w w') (hb : ¬ S b) : MapIs P k w' b n ks vs := by
  obtain ⟨D, ⟨es, clock, hh, r⟩, h2⟩ := h
  exact ⟨D, ⟨es, clock, hc.heapAt hh hb, r⟩, h2⟩
theorem MapIs.new {P : Program} {k : TypeId} {w w' : World} {b n : Nat} {ks : List Int} {vs : List Value} (h : MapIs P k w b n ks vs) (hc : New w w') : MapIs P k w' b n ks vs := h.chg hc (fun x => x)
theorem MapIs.lt {P : Program} {k : TypeId} {w : World} {b n : Nat} {ks : List Int} {vs : List Value} (h : MapIs P k w b n ks vs) : b < w.heap.size := by
  obtain ⟨D, h1, _⟩ := h
  exact h1.lt
theorem RangeIs.chg {P : Program} {k : TypeId} {w w' : World} {b r n : Nat} {ks : List Int} {vs : List Value} {rem : Int → Bool} {cnt : Nat} {S : Nat → Prop} (h : RangeIs P k w b r n ks vs rem cnt) (hc : Chg S w w') (hb : ¬ S b) (hr : ¬ S r) : RangeIs P k w' b r n ks vs rem cnt := by
  obtain ⟨D, left, ⟨es, clock, since, seen, c0, h1, h2, h3, h4, h5, h6⟩, h7⟩ := h
  exact ⟨D, left, ⟨es, clock, since, seen, c0, hc.heapAt h1 hb, h2, h3, h4, hc.heapAt h5 hr, h6⟩, h7⟩
theorem RangeIs.owns {P : Program} {k : TypeId} {w : World} {b r n : Nat} {ks : List Int} {vs : List Value} {rem : Int → Bool} {cnt : Nat} (h : RangeIs P k w b r n ks vs rem cnt) : MapIs P k w b n ks vs := by
  obtain ⟨D, left, h1, _, _, h4, h5⟩ := h
  exact ⟨D, h1.owns, h4, h5⟩
theorem RangeIs.left {P : Program} {k : TypeId} {w : World} {b r n : Nat} {ks : List Int} {vs : List Value} {rem : Int → Bool} {cnt : Nat} (h : RangeIs P k w b r n ks vs rem cnt) : w.rangeLeft b r = cnt := by
  obtain ⟨D, left, h1, _⟩ := h
  exact h1.left_eq

/-- rem without x. -/
def remWo (rem : Int → Bool) (x z : Int) : Bool := rem z && decide (z ≠ x)
theorem remWo_same (rem : Int → Bool) (x : Int) : remWo rem x x = false := by simp [remWo]
theorem remWo_other (rem : Int → Bool) {x z : Int} (h : z ≠ x) : remWo rem x z = rem z := by simp [remWo, h]

theorem lit_ne {x y : Int} (h : x ≠ y) : (Lit.int .i64 x) ≠ .int .i64 y := fun e => h (by injection e)

section
variable {P : Program} {w : World} {ops : Array Oper} {rest : List Oper} {o : Oper} {a : Act} {Q : Exit → Act → World → Prop}

/-- m[z] = v, at a new key. -/
theorem wpList_mapPut (hgd : o.guard = none) (m x v : Operand) (t : TypeId) (ho : o.op = Op.mapUpdate t m x v) (k e : TypeId) (hk : P.underlying k = some (.int .i64)) (ht : P.underlying t = some (.map k e))
    (b n : Nat) (ks : List Int) (vs : List Value) (hm : a.eval m = .map (some b)) (h : MapIs P k w b n ks vs) (hn : n < maxLen) (z : Int) (sa : Option Addr) (sn sc : Nat) (hx : a.eval x = .int .i64 z) (hv : a.eval v = .slice sa sn sc)
    (hwf : (Lit.int .i64 z).wf = true) (hz : z ∉ ks) (hl : ks.length = vs.length)
    (hK : ∀ w', MapIs P k w' b (n + 1) (ks ++ [z]) (vs ++ [.slice sa sn sc]) → Chg (· = b) w w' → wpList P ops Q rest (a.put o.dst undef) w') : wpList P ops Q (o :: rest) a w := by
  obtain ⟨D, h1, h2, h3⟩ := h
  have hkey : keyOf P k (.int .i64 z) = some (.int .i64 z) := Maps.keyOf_int_mk hk hwf
  have hik := (Maps.int_keyed hk).key hkey
  refine wpList_mapUpdate_own w hgd m x v t ho k e (Maps.int_keyed hk) ht slE b n D hm h1 hn _ _ _ hx hv hkey (.held (.slice sa sn sc)) [] rfl (fun w' hw hg => hK w' ⟨_, hw, fun y => ?_, fun i hi zd => ?_⟩ ((Chg.of_grown hg).mono (fun i _ hi => by injection hi with hi; exact hi.symm)))
  · by_cases e : y = z
    · subst e
      rw [Maps.has_put_same h1.isMap hik]
      simp
    · rw [Maps.has_put_other (lit_ne e), h2 y]
      simp [e]
  · rw [List.length_append, List.length_singleton] at hi
    by_cases hlt : i < ks.length
    · have e1 : gi (ks ++ [z]) i = gi ks i := by rw [gi_lt (by simp; omega), gi_lt hlt, List.getElem_append_left hlt]
      have e2 : gv (vs ++ [Value.slice sa sn sc]) i = gv vs i := by rw [gv_lt (by simp; omega), gv_lt (by omega), List.getElem_append_left (by omega)]
      rw [e1, e2, Maps.atKey_put_other (lit_ne (fun e => hz (by rw [← e, gi_lt hlt]; exact List.getElem_mem hlt)))]
      exact h3 i hlt zd
    · obtain rfl : i = ks.length := by omega
      have e1 : gi (ks ++ [z]) ks.length = z := by rw [gi_lt (by simp)]; simp
      have e2 : gv (vs ++ [Value.slice sa sn sc]) ks.length = Value.slice sa sn sc := by rw [hl, gv_lt (by simp)]; simp
      rw [e1, e2, Maps.atKey_put_same h1.isMap hik]

/-- _, ok := m[z]. -/
theorem wpList_mapHas (hgd : o.guard = none) (m x : Operand) (t : TypeId) (ho : o.op = Op.lookup t m x true) (k e : TypeId) (hk : P.underlying k = some (.int .i64)) (ht : P.underlying t = some (.map k e)) (hz0 : (zeroValue e).run P w = .ok (.slice none 0 0) w)
    (b n : Nat) (ks : List Int) (vs : List Value) (hm : a.eval m = .map (some b)) (h : MapIs P k w b n ks vs) (z : Int) (hx : a.eval x = .int .i64 z) (hwf : (Lit.int .i64 z).wf = true)
    (hK : ∀ v, wpList P ops Q rest (a.put o.dst (.tuple #[v, .bool (decide (z ∈ ks))])) w) : wpList P ops Q (o :: rest) a w := by
  obtain ⟨D, h1, h2, h3⟩ := h
  have hkey : keyOf P k (.int .i64 z) = some (.int .i64 z) := Maps.keyOf_int_mk hk hwf
  refine wpList_lookup_own_ok w hgd m x t ho k e (Maps.int_keyed hk) ht slE hz0 (.held (.slice none 0 0)) [] rfl b n D hm h1 _ _ hx hkey (fun v ps hv => ?_)
  rw [h2 z]
  exact hK v

/-- range m, as it runs. -/
theorem MapIs.range {k e t : TypeId} {b n : Nat} {ks : List Int} {vs : List Value} (h : MapIs P k w b n ks vs) (hk : P.underlying k = some (.int .i64)) (ht : P.underlying t = some (.map k e)) :
    ∃ w' cnt, (Instr.range t (.map (some b))).run P w = .ok (.pointer (some ⟨w.heap.size, 0, none⟩)) w' ∧ RangeIs P k w' b w.heap.size n ks vs (fun x => decide (x ∈ ks)) cnt ∧ New w w' ∧ w.heap.size < w'.heap.size := by
  obtain ⟨D, h1, h2, h3⟩ := h
  obtain ⟨w', hrun, hr, hg, hs⟩ := h1.range (Maps.int_keyed hk) ht
  exact ⟨w', _, hrun, ⟨D, _, hr, h2, fun x hx => by simpa using hx, h2, h3⟩, (Chg.of_grown hg).mono (fun i _ hi => by cases hi), by omega⟩

/-- range m. -/
theorem wpList_mapRange (hgd : o.guard = none) (m : Operand) (t : TypeId) (ho : o.op = Op.range t m) (k e : TypeId) (hk : P.underlying k = some (.int .i64)) (ht : P.underlying t = some (.map k e))
    (b n : Nat) (ks : List Int) (vs : List Value) (hm : a.eval m = .map (some b)) (h : MapIs P k w b n ks vs)
    (hK : ∀ w' cnt, RangeIs P k w' b w.heap.size n ks vs (fun x => decide (x ∈ ks)) cnt → New w w' → w.heap.size < w'.heap.size → wpList P ops Q rest (a.put o.dst (.pointer (some ⟨w.heap.size, 0, none⟩))) w') : wpList P ops Q (o :: rest) a w := by
  obtain ⟨D, h1, h2, h3⟩ := h
  refine wpList_range_own w hgd m t ho k e (Maps.int_keyed hk) ht slE b n D hm h1 (fun w' hr hg hs => hK w' _ ⟨D, _, hr, h2, fun x hx => by simpa using hx, h2, h3⟩ ((Chg.of_grown hg).mono (fun i _ hi => by cases hi)) (by omega))

/-- The next entry. -/
theorem wpList_mapNext (hgd : o.guard = none) (it : Operand) (ho : o.op = Op.next it false) (k : TypeId) (hk : P.underlying k = some (.int .i64)) (b r n : Nat) (ks : List Int) (vs : List Value) (rem : Int → Bool) (cnt : Nat)
    (hit : a.eval it = .pointer (some ⟨r, 0, none⟩)) (h : RangeIs P k w b r n ks vs rem cnt)
    (hDone : (∀ x, rem x = false) → wpList P ops Q rest (a.put o.dst (.tuple #[.bool false])) w)
    (hMore : ∀ (i : Nat) (sa : Option Addr) (sn sc : Nat) (w' : World) (cnt' : Nat), i < ks.length → gv vs i = .slice sa sn sc → rem (gi ks i) = true → RangeIs P k w' b r n ks vs (remWo rem (gi ks i)) cnt' → cnt' < cnt → Chg (· = r) w w' → w'.heap.size = w.heap.size →
      (Instr.entry (.pointer (some ⟨r, 0, none⟩))).run P w' = .ok (.tuple #[.int .i64 (gi ks i), .slice sa sn sc]) w' → wpList P ops Q rest (a.put o.dst (.tuple #[.bool true, .int .i64 (gi ks i), .slice sa sn sc])) w') : wpList P ops Q (o :: rest) a w := by
  obtain ⟨D, left, h1, h2, h3, h4, h5⟩ := h
  refine wpList_next_ranges w hgd it ho k (Maps.int_keyed hk) slE (Value.int .i64) (fun s : Option Addr × Nat × Nat => Value.slice s.1 s.2.1 s.2.2) (fun key kl hkey => by obtain ⟨x, rfl, _⟩ := Maps.keyOf_int_inv hk hkey; exact ⟨x, rfl⟩)
    (fun v y hv => by obtain ⟨a, n, c, rfl, _⟩ := slE_inv hv; exact ⟨(a, n, c), rfl⟩) b r n D left cnt hit h1 (fun _ hl => hDone (fun x => by rw [← h2 x]; exact hl _)) (fun x s kl y w' cnt' hkey hlk hv hat hrg hlt hgr hsz hen => ?_)
  obtain ⟨sa, sn, sc⟩ := s
  obtain ⟨x', ex, rfl, hwx⟩ := Maps.keyOf_int_inv hk hkey
  cases ex
  have hrx : rem x = true := by rw [← h2 x]; exact hlk
  obtain ⟨i, hi, rfl⟩ := List.getElem_of_mem (h3 x hrx)
  rw [← gi_lt hi] at *
  obtain ⟨_, _, _, e, rfl⟩ := slE_inv hv
  cases e
  have hvv : gv vs i = .slice sa sn sc := by
    have h6 := h5 i hi .nil
    rw [hat .nil] at h6
    injection h6 with h6
    exact h6.symm
  refine hMore i sa sn sc w' cnt' hi hvv hrx ⟨D, _, hrg, fun z => ?_, fun z hz => h3 z (by simp only [remWo, Bool.and_eq_true] at hz; exact hz.1), h4, h5⟩ hlt ((Chg.of_grown hgr).mono (fun j _ hj => by injection hj with hj; exact hj.symm)) hsz hen
  rw [h2 z]
  unfold remWo
  by_cases e : z = gi ks i
  · subst e; simp [WideAt.sameKey_self (show WideAt.IsKeyLit (Lit.int .i64 (gi ks i)) from (Maps.int_keyed hk).key hkey)]
  · rw [Maps.sameKey_ne (lit_ne e)]; simp [e]
end
end Go.Proofs.Yteoiaicpdmlecaa
