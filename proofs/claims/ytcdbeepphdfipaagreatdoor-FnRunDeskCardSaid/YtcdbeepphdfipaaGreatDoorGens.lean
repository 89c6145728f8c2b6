/- The generators' reader: each number that it picks is one of those asked for. The generators' small parts: one of a list, a prime. The generators' tables and words: some rows, some numbers. The generators' table: some rows of its own. The generators of tables. -/
import Derived.Test.YtcdbeepphdfipaaGreatDoorLawK
import Derived.IntWalk
import Derived.Test.YtcdbeepphdfipaaGreatDoorRedP
import Derived.Test.YtcdbeepphdfipaaGreatDoorLeaf
namespace Go.Proofs.YtcdbeepphdfipaaGreatDoor
open Go.RowKit
set_option linter.unusedVariables false

/-- v reads as n bytes, in blocks below g. -/
def IsB (w : World) (g : Nat) (v : Value) (n : Nat) : Prop :=
  ∃ ao cap, v = .slice ao n cap ∧ n ≤ cap ∧ cap ≤ maxLen ∧ ∀ i, i < n → ∃ b o x, b < g ∧ ao = some ⟨b, o, none⟩ ∧ w.cell? ⟨b, o + i, none⟩ = some (.int .u8 x) ∧ 0 ≤ x ∧ x ≤ 255
theorem IsB.chg {S : Nat → Prop} {w w' : World} {g n : Nat} {v : Value} (h : IsB w g v n) (hc : Chg S w w') (hS : ∀ k, S k → g ≤ k) : IsB w' g v n := by
  obtain ⟨ao, cap, e, h1, h2, h3⟩ := h
  refine ⟨ao, cap, e, h1, h2, fun i hi => ?_⟩
  obtain ⟨b, o, x, hb, rfl, hcell, hx⟩ := h3 i hi
  exact ⟨b, o, x, hb, rfl, hc.cell hcell (fun hs => by have := hS _ hs; simp at this; omega), hx⟩
/-- A reader at g, that has picked at most N numbers. -/
def Rd (w : World) (g N : Nat) : Prop := ∃ (v : Value) (k n : Nat), Blk2 w g v (.int .i64 k) 85 ∧ k ≤ N ∧ n ≤ 2000 ∧ IsB w g v n
theorem Rd.chg {S : Nat → Prop} {w w' : World} {g N : Nat} (h : Rd w g N) (hc : Chg S w w') (hS : ∀ k, S k → g < k) : Rd w' g N := by
  obtain ⟨v, k, n, h1, h2, h3, h4⟩ := h
  exact ⟨v, k, n, h1.chg hc (fun hs => by have := hS _ hs; omega), h2, h3, h4.chg hc (fun k hs => Nat.le_of_lt (hS k hs))⟩
theorem Rd.new {w w' : World} {g N : Nat} (h : Rd w g N) (hc : New w w') : Rd w' g N := h.chg hc (fun _ x => x.elim)
theorem Rd.mono {w : World} {g N M : Nat} (h : Rd w g N) (hm : N ≤ M) : Rd w g M := by
  obtain ⟨v, k, n, h1, h2, h3⟩ := h
  exact ⟨v, k, n, h1, by omega, h3⟩
theorem Rd.lt {w : World} {g N : Nat} (h : Rd w g N) : g < w.heap.size := by
  obtain ⟨v, k, n, h1, _⟩ := h
  exact (Array.getElem?_eq_some_iff.1 h1).1

theorem xor_i64 (x y : Nat) (hx : x < 4611686018427387904) (hy : y < 4611686018427387904) : 0 ≤ bits BinOp.xor IntKind.i64 (x : Int) (y : Int) ∧ bits BinOp.xor IntKind.i64 (x : Int) (y : Int) < 4611686018427387904 := by
  have e : (BitVec.ofInt 64 (x : Int) ^^^ BitVec.ofInt 64 (y : Int)).toNat = x ^^^ y := by
    rw [BitVec.toNat_xor, BitVec.toNat_ofInt, BitVec.toNat_ofInt]
    congr 1 <;> omega
  have hlt : x ^^^ y < 2 ^ 62 := Nat.xor_lt_two_pow (by omega) (by omega)
  have hb : bits BinOp.xor IntKind.i64 (x : Int) (y : Int) = IntKind.i64.wrap (((x ^^^ y : Nat)) : Int) := by
    rw [← e]; rfl
  rw [hb, IntWalk.i64_in _ (by omega)]
  omega

theorem xor_int {a b : Int} (ha : 0 ≤ a ∧ a < 4611686018427387904) (hb : 0 ≤ b ∧ b < 4611686018427387904) : 0 ≤ bits BinOp.xor IntKind.i64 a b ∧ bits BinOp.xor IntKind.i64 a b < 4611686018427387904 := by
  obtain ⟨x, rfl⟩ : ∃ x : Nat, a = x := ⟨a.toNat, by omega⟩
  obtain ⟨y, rfl⟩ : ∃ y : Nat, b = y := ⟨b.toNat, by omega⟩
  exact xor_i64 x y (by omega) (by omega)

/-- What a pick of n yields. -/
def PickN (n x : Int) : Prop := 0 ≤ x ∧ (1 ≤ n → x < n) ∧ (n < 1 → x = 0)
/-- It ends with a number, the reader has gone on, nothing else that was there has turned. -/
def Picks (g N : Nat) (w : World) (e : Ending) (w' : World) (Q : Int → Prop) : Prop := ∃ x : Int, e = .returned (.int .i64 x) ∧ Q x ∧ Rd w' g N ∧ Chg (· = g) w w'

theorem rd_next {w : World} {g k n : Nat} {v : Value} (h1 : Blk2 w g v (.int .i64 k) 85) (hb : IsB w g v n) (hn : n ≤ 2000) :
    Blk2 (w.setCell ⟨g, 1, none⟩ (.int .i64 ((k : Int) + 1))) g v (.int .i64 ((k + 1 : Nat) : Int)) 85 ∧ IsB (w.setCell ⟨g, 1, none⟩ (.int .i64 ((k : Int) + 1))) g v n ∧ Chg (· = g) w (w.setCell ⟨g, 1, none⟩ (.int .i64 ((k : Int) + 1))) := by
  have hc : Chg (· = g) w (w.setCell ⟨g, 1, none⟩ (.int .i64 ((k : Int) + 1))) := Chg.setCell w ⟨g, 1, none⟩ _
  refine ⟨?_, hb.chg hc (fun k hk => by omega), hc⟩
  have h' : w.heap[g]? = some (.cells #[v, .int .i64 k] 85 (0, 0)) := h1
  simp [Blk2, World.setCell, Array.getElem?_modify, h']

set_option maxRecDepth 100000 in
set_option maxHeartbeats 1000000 in
theorem pick_any (g N : Nat) (n : Int) (w : World) (hr : Rd w g N) (hN : N ≤ 1000000) (hn : n ≤ 1000000) :
    Calls Tryz.prog 45 #[.pointer (some ⟨g, 0, none⟩), .int .i64 n] w fun e w' => Picks g (N + 1) w e w' (PickN n) := by
  obtain ⟨v, k, L, hb, hk, hL, hby⟩ := hr
  obtain ⟨h1, h2, h3⟩ := rd_next hb hby hL
  obtain ⟨c0, c1, f0, f1⟩ := hb.cells
  obtain ⟨w1, hw1⟩ : ∃ w1 : World, w1 = w.setCell ⟨g, 1, none⟩ (.int .i64 ((k : Int) + 1)) := ⟨_, rfl⟩
  rw [← hw1] at h1 h2 h3
  obtain ⟨d0, d1, _, _⟩ := h1.cells
  have hR : Rd w1 g (N + 1) := ⟨v, k + 1, L, h1, by omega, hL, h2⟩
  clear h2
  obtain ⟨ao, cap, rfl, hcap, hmx, hcell⟩ := hby
  have hcap2 : cap ≤ 9223372036854775807 := by unfold maxLen at hmx; omega
  have HC := Lib.hid hcell
  have HR := Lib.hid hR
  have H3 := Lib.hid h3
  have HW := Lib.hid hw1
  clear hcell hR h3 hw1 hb h1 hmx
  by_cases hn1 : n < 1
  · have hd : decide (n < 1) = true := by simp; omega
    go_enter Tryz.func45, Tryz.ntmps45
    go_wp2_with fail
    go_ret
    rw [← HW.out]
    exact ⟨0, rfl, ⟨Int.le_refl _, fun h => by omega, fun _ => rfl⟩, HR.out, H3.out⟩
  · have hd : decide (n < 1) = false := by simp; omega
    by_cases hL0 : L = 0
    · subst hL0
      go_enter Tryz.func45, Tryz.ntmps45
      go_wp2_with fail
      all_goals
        rw [← HW.out]
      all_goals
        go_wp2_with fail
        go_ret
        exact ⟨0, rfl, ⟨Int.le_refl _, fun h => by omega, fun _ => rfl⟩, HR.out, H3.out⟩
    · have hLd : ((L : Int) == 0) = false := by simp; omega
      by_cases hkL : k < L
      · obtain ⟨b, o, x, hbg, rfl, cx, hx0, hx1⟩ := HC.out k hkL
        go_enter Tryz.func45, Tryz.ntmps45
        go_wp2_with fail
        rw [← HW.out]
        go_ret
        have hm1 := Int.emod_nonneg x (show n ≠ 0 by omega)
        have hm2 := Int.emod_lt_of_pos x (show 0 < n by omega)
        exact ⟨_, rfl, ⟨hm1, fun _ => hm2, fun h => by omega⟩, HR.out, H3.out⟩
      · have hkl : (L : Int) ≤ k := by omega
        have hk6 : (k : Int) ≤ 1000000 := by omega
        have hL1 : (1 : Int) ≤ L := by omega
        have hL2 : (L : Int) ≤ 2000 := by omega
        have hi1 : k % L < L := Nat.mod_lt _ (by omega)
        obtain ⟨j, hj⟩ : ∃ j : Nat, ((k : Int) * 7 + 3) % (L : Int) = j := ⟨(((k : Int) * 7 + 3) % (L : Int)).toNat, by have := Int.emod_nonneg ((k : Int) * 7 + 3) (show (L : Int) ≠ 0 by omega); omega⟩
        have hi2 : j < L := by have := Int.emod_lt_of_pos ((k : Int) * 7 + 3) (show (0 : Int) < L by omega); omega
        obtain ⟨b, o, x, hbg, rfl, cx, hx0, hx1⟩ := HC.out _ hi1
        obtain ⟨b', o', y, _, eb, cy, hy0, hy1⟩ := HC.out _ hi2
        simp only [Option.some.injEq, Addr.mk.injEq, and_true] at eb
        obtain ⟨rfl, rfl⟩ := eb
        have hbg' : b ≠ g := by omega
        obtain ⟨q, hq⟩ : ∃ q : Nat, (k : Int) / (L : Int) = q := ⟨k / L, by simp⟩
        have hq6 : (q : Int) ≤ 1000000 := by have := Int.ediv_le_self (L : Int) (show (0 : Int) ≤ k by omega); omega
        have hx := xor_int (a := x * 131 + y * 1117 + (k : Int) * 29 + (q : Int) * 53) (b := (x * 131 + y * 1117 + (k : Int) * 29 + (q : Int) * 53) / 64) (by omega) (by omega)
        obtain ⟨z, hz⟩ : ∃ z, bits BinOp.xor IntKind.i64 (x * 131 + y * 1117 + (k : Int) * 29 + (q : Int) * 53) ((x * 131 + y * 1117 + (k : Int) * 29 + (q : Int) * 53) / 64) = z := ⟨_, rfl⟩
        rw [hz] at hx
        have hm1 := Int.emod_nonneg z (show n ≠ 0 by omega)
        have hm2 := Int.emod_lt_of_pos z (show 0 < n by omega)
        have HM := Lib.hid (And.intro hm1 hm2)
        clear hm1 hm2
        have cx' := H3.out.cell cx hbg'
        have cy' := H3.out.cell cy hbg'
        go_enter Tryz.func45, Tryz.ntmps45
        go_wp2_with fail
        rw [← HW.out]
        clear cx cy c0 c1
        go_quiet (fail)
        go_wp2_with fail
        go_ret
        exact ⟨_, rfl, ⟨HM.out.1, fun _ => HM.out.2, fun h => by omega⟩, HR.out.new (New.drewN _ _), Chg.trans H3.out (New.drewN _ _) (fun _ _ x => x) (fun _ _ x => x.elim)⟩
end Go.Proofs.YtcdbeepphdfipaaGreatDoor

namespace Go.Proofs.YtcdbeepphdfipaaGreatDoor
open Go.RowKit
set_option linter.unusedVariables false

theorem Picks.mono {g N M : Nat} {w : World} {e : Ending} {w' : World} {Q R : Int → Prop} (h : Picks g N w e w' Q) (hm : N ≤ M) (hq : ∀ x, Q x → R x) : Picks g M w e w' R := by
  obtain ⟨x, h1, h2, h3, h4⟩ := h
  exact ⟨x, h1, hq x h2, h3.mono hm, h4⟩

/-- A list that has just been laid. -/
theorem Own.lit (w : World) (t : TypeId) (us : List Value) (hm : us.length ≤ 1000) : Own (w.alloc (.cells us.toArray t)) t (.slice (some ⟨w.heap.size, 0, none⟩) us.length us.length) us :=
  .inr ⟨w.heap.size, us.length, us.toArray, rfl, heap_alloc_new w _, Nat.le_refl _, by simp only [maxLen]; omega, by simp, by simp⟩
theorem IsI.lit (w : World) (t : TypeId) (xs : List Int) (hm : xs.length ≤ 1000) : IsI (w.alloc (.cells (xs.map (Value.int .i64)).toArray t)) (.slice (some ⟨w.heap.size, 0, none⟩) xs.length xs.length) xs := by
  have h := Own.lit w t (xs.map (Value.int .i64)) (by rw [List.length_map]; exact hm)
  rw [List.length_map] at h
  exact h.isI (by unfold Mid; omega)

set_option maxHeartbeats 1000000 in
theorem one_any (g N : Nat) (v : Value) (xs : List Int) (w : World) (hr : Rd w g N) (hN : N ≤ 1000000) (hx : IsI w v xs) (h0 : 0 < xs.length) (hl : xs.length ≤ 1000) (hb : ∀ b, v.ownBlock = some b → b ≠ g) :
    Calls Tryz.prog 52 #[.pointer (some ⟨g, 0, none⟩), v] w fun e w' => Picks g (N + 1) w e w' (fun x => ∃ i, i < xs.length ∧ x = gi xs i) := by
  obtain ⟨ao, n, cap, rfl, HN, hn⟩ := hx.shape
  have hn0 : 0 < n := by rw [HN.out]; exact h0
  have hnl : n ≤ 1000 := by rw [HN.out]; exact hl
  have HX := Lib.hid hx
  have HB := Lib.hid hb
  have HR := Lib.hid hr
  clear hx hb hr h0 hl
  go_enter Tryz.func52, Tryz.ntmps52
  go_wp2_with fail
  refine (pick_any g N n _ HR.out hN (by omega)).mono ?_
  rintro e w1 ⟨x, rfl, hp, hr1, hc1⟩
  have hp0 := hp.1
  have hpn := hp.2.1 (by omega)
  obtain ⟨i, rfl⟩ : ∃ i : Nat, x = i := ⟨x.toNat, by omega⟩
  have hin : i < n := by omega
  obtain ⟨b, o, rfl, cx⟩ := (HX.out.chg hc1 (fun g' hg' e => HB.out g' hg' e)).at hin
  have HE := Lib.hid (And.intro hr1 hc1)
  clear hp hr1 hc1
  go_wp2_with fail
  go_ret
  exact ⟨_, rfl, ⟨i, by rw [← HN.out]; exact hin, rfl⟩, HE.out.1, HE.out.2⟩

/-- One of a list that has just been laid. -/
theorem one_lit (g N : Nat) (Q : Int → Prop) (xs : List Int) (w : World) (t : TypeId) (cs : Array Value) (n : Nat) (hcs : cs = (xs.map (Value.int .i64)).toArray) (hn : n = xs.length) (hr : Rd w g N) (hN : N ≤ 1000000) (h0 : 0 < xs.length) (hl : xs.length ≤ 1000) (hQ : ∀ x ∈ xs, Q x) :
    Calls Tryz.prog 52 #[.pointer (some ⟨g, 0, none⟩), .slice (some ⟨w.heap.size, 0, none⟩) n n] (w.alloc (.cells cs t)) fun e w' => Picks g (N + 1) w e w' Q := by
  subst hcs hn
  have hlt := hr.lt
  refine (one_any g N _ xs _ (hr.new (New.alloc _ _)) hN (IsI.lit w t xs hl) h0 hl (fun b hb => by simp [Value.ownBlock] at hb; omega)).mono ?_
  rintro e w' ⟨x, h1, ⟨i, hi, h2⟩, h3, h4⟩
  exact ⟨x, h1, hQ x (by rw [h2, gi_lt hi]; exact List.getElem_mem hi), h3, Chg.trans (New.alloc _ _) h4 (fun _ _ x => x.elim) (fun _ _ x => x)⟩

end Go.Proofs.YtcdbeepphdfipaaGreatDoor

namespace Go.Proofs.YtcdbeepphdfipaaGreatDoor
open Go.RowKit
set_option linter.unusedVariables false

/-- Slices of elements of two types have two blocks. -/
theorem Own.apart_ty {w : World} {e e' : TypeId} {u v : Value} {xs ys : List Value} (h1 : Own w e u xs) (h2 : Own w e' v ys) (hne : e ≠ e') : Apart u v := by
  intro g hg hg'
  rcases h1 with ⟨rfl, _⟩ | ⟨g1, c1, cur1, rfl, hh1, _⟩
  · simp [Value.ownBlock] at hg
  · rcases h2 with ⟨h2, _⟩ | ⟨g2, c2, cur2, h2, hh2, _⟩
    · rw [h2] at hg'; simp [Value.ownBlock] at hg'
    · rw [h2] at hg'
      simp [Value.ownBlock] at hg hg'
      subst hg; subst hg'
      rw [hh1] at hh2
      simp at hh2
      exact hne hh2.2
theorem row_ne : (53 : Nat) ≠ 3 := by decide

/-- A row of one's own is laid behind the others. -/
theorem OwnR.push' {w1 w2 : World} {v v' u : Value} {vs : List Value} {rows : List (List Int)} {xs : List Int}
    (h : OwnR w1 53 3 v vs rows) (hu : Own w1 3 u (xs.map (Value.int .i64))) (ha : ∀ i, i < rows.length → Apart (gv vs i) u)
    (hv' : Own w2 53 v' (vs ++ [u])) (h2 : Chg (fun k => v.ownBlock = some k) w1 w2) : OwnR w2 53 3 v' (vs ++ [u]) (rows ++ [xs]) :=
  OwnR.snoc hv' h.len (fun i hi => (h.inner i hi).chg h2 (fun g hg hs => h.outer_apart row_ne hi g hs hg)) h.apart (hu.chg h2 (fun g hg hs => h.outer.apart_ty hu row_ne g hs hg)) ha
theorem FromR.push {B C : Nat} {v v' u : Value} {vs : List Value} {rows : List (List Int)} {xs : List Int} (hf : FromR B v vs rows) (hl : vs.length = rows.length) (hu : From B u) (hn : ∀ g, v'.ownBlock = some g → v.ownBlock = some g ∨ C ≤ g) (hC : B ≤ C) : FromR B v' (vs ++ [u]) (rows ++ [xs]) :=
  ⟨fun g hg => by
    rcases hn g hg with k | k
    · exact hf.1 g k
    · omega, fun i hi => by
    simp at hi
    by_cases e : i < rows.length
    · rw [gv_snoc_lt (by rw [hl]; exact e)]; exact hf.2 i e
    · rw [gv_snoc_eq (by rw [hl]; omega)]; exact hu⟩
theorem gv_set {vs : List Value} {k i : Nat} {y : Value} (hi : i < vs.length) : gv (vs.set k y) i = if k = i then y else gv vs i := by
  rw [gv_lt (by simpa using hi), List.getElem_set, gv_lt hi]
/-- Another row is laid at one's place. -/
theorem OwnR.lay {w : World} {g n cap : Nat} {u : Value} {vs : List Value} {rows : List (List Int)} {xs : List Int} {k : Nat} (ho : Own w 53 (.slice (some ⟨g, 0, none⟩) n cap) vs) (hl : vs.length = rows.length)
    (hin : ∀ i, i < rows.length → i ≠ k → Own w 3 (gv vs i) ((gr rows i).map (Value.int .i64))) (hap : ∀ i j, i < rows.length → j < rows.length → i ≠ j → Apart (gv vs i) (gv vs j))
    (hk : k < rows.length) (hu : Own w 3 u (xs.map (Value.int .i64))) (ha : ∀ i, i < rows.length → i ≠ k → Apart (gv vs i) u) :
    OwnR (w.setCell ⟨g, k, none⟩ u) 53 3 (.slice (some ⟨g, 0, none⟩) n cap) (vs.set k u) (rows.set k xs) := by
  have hc : Chg (· = g) w (w.setCell ⟨g, k, none⟩ u) := Chg.setCell w ⟨g, k, none⟩ u
  refine ⟨ho.set k u, by simp [hl], fun i hi => ?_, fun i j hi hj hne => ?_⟩
  · rw [List.length_set] at hi
    rw [gv_set (by omega), gr_lt (by rw [List.length_set]; exact hi), List.getElem_set, ← gr_lt hi]
    by_cases e : k = i
    · rw [if_pos e, if_pos e]
      exact hu.chg hc (fun g' hg' e => by subst e; exact ho.apart_ty hu row_ne g' rfl hg')
    · rw [if_neg e, if_neg e]
      exact (hin i hi (fun h => e h.symm)).chg hc (fun g' hg' e2 => by subst e2; exact ho.apart_ty (hin i hi (fun h => e h.symm)) row_ne g' rfl hg')
  · rw [List.length_set] at hi hj
    rw [gv_set (by omega), gv_set (by omega)]
    by_cases e : k = i
    · rw [if_pos e, if_neg (by omega)]
      exact (ha j hj (by omega)).symm
    · rw [if_neg e]
      by_cases e2 : k = j
      · rw [if_pos e2]; exact ha i hi (by omega)
      · rw [if_neg e2]; exact hap i j hi hj hne
/-- A row is laid anew at its place, while the reader has gone on. -/
theorem rows_put {w wz w5 : World} {S : Nat → Prop} {g gb N n cap k : Nat} {u : Value} {vs : List Value} {rows : List (List Int)} {xs : List Int} (hg : g < w.heap.size) (h : OwnR wz 53 3 (.slice (some ⟨gb, 0, none⟩) n cap) vs rows) (hF : FromR w.heap.size (.slice (some ⟨gb, 0, none⟩) n cap) vs rows)
    (hk : k < rows.length) (hC : Chg (· = g) w wz) (hR : Rd w5 g N) (hc : Chg S wz w5) (hS : ∀ b, S b → b = g ∨ (gv vs k).ownBlock = some b) (hu : Own w5 3 u (xs.map (Value.int .i64))) (hu3 : ∀ g', u.ownBlock = some g' → (gv vs k).ownBlock = some g' ∨ wz.heap.size ≤ g') :
    OwnR (w5.setCell ⟨gb, k, none⟩ u) 53 3 (.slice (some ⟨gb, 0, none⟩) n cap) (vs.set k u) (rows.set k xs) ∧ FromR w.heap.size (.slice (some ⟨gb, 0, none⟩) n cap) (vs.set k u) (rows.set k xs) ∧ Rd (w5.setCell ⟨gb, k, none⟩ u) g N ∧ Chg (· = g) w (w5.setCell ⟨gb, k, none⟩ u) := by
  have hgb : w.heap.size ≤ gb := hF.1 gb rfl
  have hs : Chg (· = gb) w5 (w5.setCell ⟨gb, k, none⟩ u) := Chg.setCell w5 ⟨gb, k, none⟩ u
  refine ⟨OwnR.lay (h.outer.chg hc (fun g' hg' hs => ?_)) h.len (fun i hi hne => (h.inner i hi).chg hc (fun g' hg' hs => ?_)) h.apart hk hu (fun i hi hne g' hg' hg2 => ?_), ⟨hF.1, fun i hi => ?_⟩, hR.chg hs (fun b hb => by omega), Chg.trans hC (Chg.trans hc hs (fun _ _ x => Or.inl x) (fun _ _ x => Or.inr x)) (fun _ _ x => x) (fun i hi hx => ?_)⟩
  · rcases hS g' hs with e | e
    · have := hF.1 g' hg'; omega
    · exact h.outer_apart row_ne hk g' hg' e
  · rcases hS g' hs with e | e
    · have := hF.2 i hi g' hg'; omega
    · exact h.apart i k hi hk hne g' hg' e
  · rcases hu3 g' hg2 with e | e
    · exact h.apart i k hi hk hne g' hg' e
    · have := (h.inner i hi).lt hg'; omega
  · rw [List.length_set] at hi
    rw [gv_set (by rw [h.len]; exact hi)]
    split
    · intro g' hg'
      rcases hu3 g' hg' with e | e
      · exact hF.2 k hk g' e
      · exact Nat.le_trans hC.size e
    · exact hF.2 i hi
  · rcases hx with e | e
    · rcases hS i e with e | e
      · exact e
      · have := hF.2 k hk i e; omega
    · omega

/-- A number is laid behind those of a list of one's own. -/
theorem grow1 {w w1 w2 : World} {g N : Nat} {v v2 : Value} {xs : List Int} {x : Int} (hg : g < w.heap.size) (hf : From w.heap.size v) (hR : Rd w1 g N) (hC : Chg (· = g) w w1)
    (k1 : Own w2 3 v2 (xs.map (Value.int .i64) ++ [Value.int .i64 x])) (k2 : Chg (fun k => v.ownBlock = some k) w1 w2) (k3 : ∀ g', v2.ownBlock = some g' → v.ownBlock = some g' ∨ w1.heap.size ≤ g') :
    Own w2 3 v2 ((xs ++ [x]).map (Value.int .i64)) ∧ From w.heap.size v2 ∧ Rd w2 g N ∧ Chg (· = g) w w2 :=
  ⟨by rw [List.map_append]; exact k1, fun g' h => by
    rcases k3 g' h with c | c
    · exact hf g' c
    · exact Nat.le_trans hC.size c, hR.chg k2 (fun k hk => by have := hf k hk; omega), Chg.trans hC k2 (fun _ _ x => x) (fun i hi h => by have := hf i h; omega)⟩

/-- It ends with some rows of its own, few, and the reader has gone on. -/
def PicksR (g N : Nat) (w : World) (e : Ending) (w' : World) (a b : Nat) : Prop :=
  ∃ u vs rows, e = .returned u ∧ OwnR w' 53 3 u vs rows ∧ FromR w.heap.size u vs rows ∧ rows.length ≤ a ∧ (∀ i, i < rows.length → (gr rows i).length ≤ b) ∧ Rd w' g N ∧ Chg (· = g) w w'
/-- It ends with some numbers of its own, few, and the reader has gone on. -/
def PicksI (g N : Nat) (w : World) (e : Ending) (w' : World) (Q : List Int → Prop) : Prop :=
  ∃ u xs, e = .returned u ∧ Own w' 3 u (xs.map (Value.int .i64)) ∧ From w.heap.size u ∧ Q xs ∧ Rd w' g N ∧ Chg (· = g) w w'

set_option maxRecDepth 100000 in
set_option maxHeartbeats 2000000 in
theorem aWord_any (g N : Nat) (p n : Int) (w : World) (hr : Rd w g N) (hN : N ≤ 900000) (hp : -1000 ≤ p ∧ p ≤ 1000) (hn : n ≤ 1000) :
    Calls Tryz.prog 54 #[.pointer (some ⟨g, 0, none⟩), .int .i64 p, .int .i64 n] w fun e w' => PicksI g (N + 1002) w e w' (fun xs => n ≤ xs.length ∧ xs.length ≤ 1001 ∧ (0 ≤ n → (xs.length : Int) ≤ n + 1)) := by
  have hg := hr.lt
  have HR := Lib.hid hr
  have HG := Lib.hid hg
  clear hr hg
  obtain ⟨P, hP⟩ : ∃ P, P = max p 1 := ⟨_, rfl⟩
  have hP1 : 1 ≤ P ∧ P ≤ 1000 := by omega
  have HP := Lib.hid hP
  clear hP
  go_enter Tryz.func54, Tryz.ntmps54
  go_wp2_with fail
  go_loopw [7] (fun t wr => ∃ (k : Nat) (xs : List Int), xs.length = k ∧ k ≤ 1000 ∧ (k : Int) ≤ max n 0 ∧ Own wr 3 t (xs.map (Value.int .i64)) ∧ From w.heap.size t ∧ Hid (Rd wr g (N + k) ∧ Chg (· = g) w wr)) (fun t _ => match t with | .slice _ l _ => (n - l).toNat | _ => 0)
  case atStart => exact ⟨0, [], rfl, Nat.zero_le _, by omega, Own.empty _ _, From.new _ _ _, HR.out.new (New.alloc _ _), Chg.trans (New.alloc _ _) (Chg.refl (· = g) _) (fun _ _ x => x.elim) (fun _ _ x => x)⟩
  case round =>
    obtain ⟨k, xs, hxk, hk, hkn, hown, hfrom, HD⟩ := hrel
    obtain ⟨wz, hwz⟩ : ∃ wz : World, wz = wr := ⟨_, rfl⟩
    rw [← hwz] at hown HD
    rw [← hwz]
    clear hwz
    obtain ⟨a, l, c, rfl, HL, hl, _⟩ := hown.opened (by rw [List.length_map]; unfold Mid; omega)
    have hlk : l = k := by rw [HL.out, List.length_map, hxk]
    subst hlk
    have HX := Lib.hid hxk
    have HO := Lib.hid (And.intro hown hfrom)
    clear hown hfrom hxk
    have hnotg : ∀ g', (Value.slice a l c).ownBlock = some g' → ¬ g' = g := fun g' h e => by have := HO.out.2 g' h; have := HG.out; omega
    have HNG := Lib.hid hnotg
    clear hnotg
    by_cases hln : (l : Int) < n
    · by_cases hp1 : p < 1
      · obtain rfl : P = 1 := by have := HP.out; omega
        go_wp2_with fail
        refine (pick_any g (N + l) 1 _ HD.out.1 (by omega) (by omega)).mono ?_
        rintro e w1 ⟨x, rfl, -, hr1, hc1⟩
        have H1 := Lib.hid (And.intro hr1 (And.intro (Chg.trans HD.out.2 hc1 (fun _ _ x => x) (fun _ _ x => x)) (HO.out.1.chg hc1 (fun g' h e => HNG.out g' h e))))
        clear hr1 hc1
        go_wp2_with (at_builtin; refine wpList_app1 rfl _ _ _ rfl tyInt w1 H1.out.2.2 rfl _ _ rfl rfl rfl (by rw [List.length_map, HX.out]; omega) ?_; intro v2 w2 k1 k2 k3; obtain ⟨a2, l2, c2, rfl, HL2, hl2, _⟩ := k1.opened (by rw [List.length_append, List.length_map, HX.out]; unfold Mid; simp; omega); have K2 := Lib.hid (And.intro k1 (And.intro k2 k3)); clear k1 k2 k3)
        obtain rfl : l2 = l + 1 := by rw [HL2.out, List.length_append, List.length_map, HX.out]; rfl
        obtain ⟨m1, m2, m3, m4⟩ := grow1 HG.out HO.out.2 H1.out.1 H1.out.2.1 K2.out.1 K2.out.2.1 K2.out.2.2
        go_roundw
        case rel => exact ⟨l + 1, xs ++ [x], by rw [List.length_append, HX.out]; rfl, by omega, by omega, m1, m2, m3, m4⟩
        case measure => simp; omega
      · obtain rfl : P = p := by have := HP.out; omega
        go_wp2_with fail
        refine (pick_any g (N + l) P _ HD.out.1 (by omega) (by omega)).mono ?_
        rintro e w1 ⟨x, rfl, -, hr1, hc1⟩
        have H1 := Lib.hid (And.intro hr1 (And.intro (Chg.trans HD.out.2 hc1 (fun _ _ x => x) (fun _ _ x => x)) (HO.out.1.chg hc1 (fun g' h e => HNG.out g' h e))))
        clear hr1 hc1
        go_wp2_with (at_builtin; refine wpList_app1 rfl _ _ _ rfl tyInt w1 H1.out.2.2 rfl _ _ rfl rfl rfl (by rw [List.length_map, HX.out]; omega) ?_; intro v2 w2 k1 k2 k3; obtain ⟨a2, l2, c2, rfl, HL2, hl2, _⟩ := k1.opened (by rw [List.length_append, List.length_map, HX.out]; unfold Mid; simp; omega); have K2 := Lib.hid (And.intro k1 (And.intro k2 k3)); clear k1 k2 k3)
        obtain rfl : l2 = l + 1 := by rw [HL2.out, List.length_append, List.length_map, HX.out]; rfl
        obtain ⟨m1, m2, m3, m4⟩ := grow1 HG.out HO.out.2 H1.out.1 H1.out.2.1 K2.out.1 K2.out.2.1 K2.out.2.2
        go_roundw
        case rel => exact ⟨l + 1, xs ++ [x], by rw [List.length_append, HX.out]; rfl, by omega, by omega, m1, m2, m3, m4⟩
        case measure => simp; omega
    · go_wp2_with fail
      refine (pick_any g (N + l) 40 _ HD.out.1 (by omega) (by omega)).mono ?_
      rintro e w1 ⟨x, rfl, -, hr1, hc1⟩
      have H1 := Lib.hid (And.intro hr1 (And.intro (Chg.trans HD.out.2 hc1 (fun _ _ x => x) (fun _ _ x => x)) (HO.out.1.chg hc1 (fun g' h e => HNG.out g' h e))))
      clear hr1 hc1
      by_cases hx0 : x = 0
      · subst hx0
        go_wp2_with (at_builtin; refine wpList_app1 rfl _ _ _ rfl tyInt w1 H1.out.2.2 rfl _ _ rfl rfl rfl (by rw [List.length_map, HX.out]; omega) ?_; intro v2 w2 k1 k2 k3; have K2 := Lib.hid (And.intro k1 (And.intro k2 k3)); clear k1 k2 k3)
        obtain ⟨m1, m2, m3, m4⟩ := grow1 HG.out HO.out.2 H1.out.1 H1.out.2.1 K2.out.1 K2.out.2.1 K2.out.2.2
        go_ret
        exact ⟨v2, xs ++ [0], rfl, m1, m2, ⟨by rw [List.length_append, HX.out]; simp; omega, by rw [List.length_append, HX.out]; simp; omega, fun h => by rw [List.length_append, HX.out]; simp; omega⟩, m3.mono (by omega), m4⟩
      · have hd0 : (x == 0) = false := by simp; omega
        by_cases hx1 : x = 1
        · subst hx1
          by_cases hl0 : l = 0
          · subst hl0
            go_wp2_with fail
            go_ret
            exact ⟨_, xs, rfl, H1.out.2.2, HO.out.2, ⟨by rw [HX.out]; omega, by rw [HX.out]; omega, fun h => by rw [HX.out]; omega⟩, H1.out.1.mono (by omega), H1.out.2.1⟩
          · have hl1 : 0 < l := by omega
            obtain ⟨gb, rfl⟩ := HO.out.1.head (i := 0) (by rw [List.length_map, HX.out]; exact hl1)
            go_wp2_with fail
            refine (one_lit g (N + l + 1) (fun _ => True) [-1, p] _ _ _ _ rfl rfl H1.out.1 (by omega) (by simp) (by simp) (fun _ _ => trivial)).mono ?_
            rintro e w2 ⟨y, rfl, -, hr2, hc2⟩
            have ho2 := H1.out.2.2.chg hc2 (fun g' h e => HNG.out g' h e)
            obtain ⟨cl, fl⟩ := ho2.cell (i := 0) (by rw [List.length_map, HX.out]; exact hl1)
            have H2 := Lib.hid (And.intro hr2 (And.intro (Chg.trans H1.out.2.1 hc2 (fun _ _ x => x) (fun _ _ x => x)) ho2))
            clear hr2 hc2 ho2
            go_wp2_with fail
            go_ret
            have hgb : w.heap.size ≤ gb := HO.out.2 gb rfl
            have hst := H2.out.2.2.set 0 (.int .i64 y)
            rw [set_map_int] at hst
            exact ⟨_, xs.set 0 y, rfl, hst, HO.out.2, ⟨by rw [List.length_set, HX.out]; omega, by rw [List.length_set, HX.out]; omega, fun h => by rw [List.length_set, HX.out]; omega⟩, (H2.out.1.chg (Chg.setCell w2 ⟨gb, 0, none⟩ _) (fun k hk => by have := HG.out; simp at hk; omega)).mono (by omega), Chg.trans H2.out.2.1 (Chg.setCell w2 ⟨gb, 0, none⟩ _) (fun _ _ x => x) (fun i hi h => by simp at h; omega)⟩
        · have hd1 : (x == 1) = false := by simp; omega
          go_wp2_with fail
          go_ret
          exact ⟨_, xs, rfl, H1.out.2.2, HO.out.2, ⟨by rw [HX.out]; omega, by rw [HX.out]; omega, fun h => by rw [HX.out]; omega⟩, H1.out.1.mono (by omega), H1.out.2.1⟩
end Go.Proofs.YtcdbeepphdfipaaGreatDoor

namespace Go.Proofs.YtcdbeepphdfipaaGreatDoor
open Go.RowKit
set_option linter.unusedVariables false

/-- A row of one's own is laid behind the others, while the reader has gone on. -/
theorem rows_more {w wz w1 w2 : World} {g N : Nat} {v u v2 : Value} {vs : List Value} {rows : List (List Int)} {xs : List Int} (hg : g < w.heap.size) (hO : OwnR wz 53 3 v vs rows) (hF : FromR w.heap.size v vs rows)
    (hC : Chg (· = g) w wz) (hC1 : Chg (· = g) wz w1) (hu : Own w1 3 u (xs.map (Value.int .i64))) (hfu : From wz.heap.size u) (hR : Rd w1 g N)
    (k1 : Own w2 53 v2 (vs ++ [u])) (k2 : Chg (fun k => v.ownBlock = some k) w1 w2) (k3 : ∀ g', v2.ownBlock = some g' → v.ownBlock = some g' ∨ w1.heap.size ≤ g') :
    OwnR w2 53 3 v2 (vs ++ [u]) (rows ++ [xs]) ∧ FromR w.heap.size v2 (vs ++ [u]) (rows ++ [xs]) ∧ Rd w2 g N ∧ Chg (· = g) w w2 := by
  have hO1 := hO.chg hC1 (fun g' h e => by have := hF.1 g' h; omega) (fun i hi g' h e => by have := hF.2 i hi g' h; omega)
  exact ⟨hO1.push' hu (fun i hi => From.apart hfu (hO.inner i hi)) k1 k2, hF.push hO.len (hfu.mono hC.size) k3 (Nat.le_trans hC.size hC1.size), hR.chg k2 (fun k hk => by have := hF.1 k hk; omega),
    Chg.trans (Chg.trans hC hC1 (fun _ _ x => x) (fun _ _ x => x)) k2 (fun _ _ x => x) (fun i hi h => by have := hF.1 i h; omega)⟩

end Go.Proofs.YtcdbeepphdfipaaGreatDoor

namespace Go.Proofs.YtcdbeepphdfipaaGreatDoor
open Go.RowKit
set_option linter.unusedVariables false

/-- Bytes that came in. -/
def RawB (w : World) (v : Value) (n : Nat) : Prop := IsB w w.heap.size v n

set_option maxHeartbeats 1000000 in
theorem newReader_any (v : Value) (n : Nat) (w : World) (hb : RawB w v n) :
    Calls Tryz.prog 35 #[v] w fun e w' => e = .returned (.pointer (some ⟨w.heap.size, 0, none⟩)) ∧ Rd w' w.heap.size 0 ∧ New w w' := by
  obtain ⟨ao, cap, rfl, hcap, hmx, hcell⟩ := hb
  have hm := hmx
  unfold maxLen at hm
  have HC := Lib.hid hcell
  have HM := Lib.hid hmx
  clear hcell hmx
  by_cases hn : 2000 < n
  · have h2000 : 2000 ≤ cap := by omega
    go_enter Tryz.func35, Tryz.ntmps35
    go_wp2_with fail
    go_ret
    exact ⟨rfl, ⟨.slice ao 2000 cap, 0, 2000, Blk2.alloc w _ _ _, Nat.le_refl _, Nat.le_refl _, ⟨ao, cap, rfl, h2000, HM.out, fun i hi => by
      obtain ⟨b, o, x, hb, e, hc, hx⟩ := HC.out i (by omega)
      exact ⟨b, o, x, hb, e, (New.alloc w _).cellNew hc, hx⟩⟩⟩, New.alloc _ _⟩
  · go_enter Tryz.func35, Tryz.ntmps35
    go_wp2_with fail
    go_ret
    exact ⟨rfl, ⟨.slice ao n cap, 0, n, Blk2.alloc w _ _ _, Nat.le_refl _, by omega, ⟨ao, cap, rfl, hcap, HM.out, fun i hi => by
      obtain ⟨b, o, x, hb, e, hc, hx⟩ := HC.out i hi
      exact ⟨b, o, x, hb, e, (New.alloc w _).cellNew hc, hx⟩⟩⟩, New.alloc _ _⟩

/-- What has turned in blocks that are newer has not turned what was there. -/
theorem New.of_chg {S : Nat → Prop} {w w1 w2 : World} (h : New w w1) (hc : Chg S w1 w2) (hS : ∀ k, S k → w.heap.size ≤ k) : New w w2 := h.then hc hS

/-- It ends with a number and rows of its own, few. -/
def DrawsT (w : World) (e : Ending) (w' : World) : Prop := ∃ (p : Int) (u : Value) (rows : List (List Int)), e = .returned (.tuple #[.int .i64 p, u]) ∧ (-1 ≤ p ∧ p ≤ 11) ∧ IsR w' u rows ∧ (rows.length ≤ 100 ∧ ∀ i, i < rows.length → (gr rows i).length ≤ 7) ∧ New w w'

end Go.Proofs.YtcdbeepphdfipaaGreatDoor
