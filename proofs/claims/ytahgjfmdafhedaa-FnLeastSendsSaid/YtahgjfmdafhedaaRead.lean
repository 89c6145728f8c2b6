/- The generators' reader: each number that it picks is one of those asked for. -/
import Derived.Test.YtahgjfmdafhedaaLawK
import Derived.IntWalk
namespace Go.Proofs.Ytahgjfmdafhedaa
open Go.RowKit
set_option linter.unusedVariables false

/-- v reads as n bytes, in blocks below g. -/
def IsB (w : World) (g : Nat) (v : Value) (n : Nat) : Prop :=
  ∃ ao cap, v = .slice ao n cap ∧ n ≤ cap ∧ cap ≤ maxLen ∧ ∀ i, i < n → ∃ b o x, b < g ∧ ao = some ⟨b, o, none⟩ ∧ w.cell? ⟨b, o + i, none⟩ = some (.int .u8 x) ∧ 0 ≤ x ∧ x ≤ 255
theorem IsB.chg {S : Nat → Prop} {w w' : World} {g n : Nat} {v : Value} (h : IsB w g v n) (hc : Chg S w w') (hS : ∀ k, S k → g ≤ k) : IsB w' g v n := by
  obtain ⟨ao, cap, e, h1, h2, h3⟩ := h
  refine ⟨ao, cap, e, h1, h2, fun i hi => ?_⟩
  obtain ⟨b, o, x, hb, rfl, hcell, hx⟩ := h3 i hi
  exact ⟨b, o, x, hb, rfl, hc.cell hcell (fun hs => by have := hS _ hs; simp at this; omega), hx⟩
/-- A reader at g, that has picked at most N numbers. -/
def Rd (w : World) (g N : Nat) : Prop := ∃ (v : Value) (k n : Nat), Blk2 w g v (.int .i64 k) 90 ∧ k ≤ N ∧ n ≤ 2000 ∧ IsB w g v n
theorem Rd.chg {S : Nat → Prop} {w w' : World} {g N : Nat} (h : Rd w g N) (hc : Chg S w w') (hS : ∀ k, S k → g < k) : Rd w' g N := by
  obtain ⟨v, k, n, h1, h2, h3, h4⟩ := h
  exact ⟨v, k, n, h1.chg hc (fun hs => by have := hS _ hs; omega), h2, h3, h4.chg hc (fun k hs => Nat.le_of_lt (hS k hs))⟩
theorem Rd.new {w w' : World} {g N : Nat} (h : Rd w g N) (hc : New w w') : Rd w' g N := h.chg hc (fun _ x => x.elim)
theorem Rd.mono {w : World} {g N M : Nat} (h : Rd w g N) (hm : N ≤ M) : Rd w g M := by
  obtain ⟨v, k, n, h1, h2, h3⟩ := h
  exact ⟨v, k, n, h1, by omega, h3⟩
theorem Rd.lt {w : World} {g N : Nat} (h : Rd w g N) : g < w.heap.size := by
  obtain ⟨v, k, n, h1, _⟩ := h
  exact (Array.getElem?_eq_some_iff.1 h1).1

theorem xor_i64 (x y : Nat) (hx : x < 4611686018427387904) (hy : y < 4611686018427387904) : 0 ≤ bits BinOp.xor IntKind.i64 (x : Int) (y : Int) ∧ bits BinOp.xor IntKind.i64 (x : Int) (y : Int) < 4611686018427387904 := by
  have e : (BitVec.ofInt 64 (x : Int) ^^^ BitVec.ofInt 64 (y : Int)).toNat = x ^^^ y := by
    rw [BitVec.toNat_xor, BitVec.toNat_ofInt, BitVec.toNat_ofInt]
    congr 1 <;> omega
  have hlt : x ^^^ y < 2 ^ 62 := Nat.xor_lt_two_pow (by omega) (by omega)
  have hb : bits BinOp.xor IntKind.i64 (x : Int) (y : Int) = IntKind.i64.wrap (((x ^^^ y : Nat)) : Int) := by
    rw [← e]; rfl
  rw [hb, IntWalk.i64_in _ (by omega)]
  omega

theorem xor_int {a b : Int} (ha : 0 ≤ a ∧ a < 4611686018427387904) (hb : 0 ≤ b ∧ b < 4611686018427387904) : 0 ≤ bits BinOp.xor IntKind.i64 a b ∧ bits BinOp.xor IntKind.i64 a b < 4611686018427387904 := by
  obtain ⟨x, rfl⟩ : ∃ x : Nat, a = x := ⟨a.toNat, by omega⟩
  obtain ⟨y, rfl⟩ : ∃ y : Nat, b = y := ⟨b.toNat, by omega⟩
  exact xor_i64 x y (by omega) (by omega)

/-- What a pick of n yields. -/
def PickN (n x : Int) : Prop := 0 ≤ x ∧ (1 ≤ n → x < n) ∧ (n < 1 → x = 0)
/-- It ends with a number, the reader has gone on, nothing else that was there has turned. -/
def Picks (g N : Nat) (w : World) (e : Ending) (w' : World) (Q : Int → Prop) : Prop := ∃ x : Int, e = .returned (.int .i64 x) ∧ Q x ∧ Rd w' g N ∧ Chg (· = g) w w'

theorem rd_next {w : World} {g k n : Nat} {v : Value} (h1 : Blk2 w g v (.int .i64 k) 90) (hb : IsB w g v n) (hn : n ≤ 2000) :
    Blk2 (w.setCell ⟨g, 1, none⟩ (.int .i64 ((k : Int) + 1))) g v (.int .i64 ((k + 1 : Nat) : Int)) 90 ∧ IsB (w.setCell ⟨g, 1, none⟩ (.int .i64 ((k : Int) + 1))) g v n ∧ Chg (· = g) w (w.setCell ⟨g, 1, none⟩ (.int .i64 ((k : Int) + 1))) := by
  have hc : Chg (· = g) w (w.setCell ⟨g, 1, none⟩ (.int .i64 ((k : Int) + 1))) := Chg.setCell w ⟨g, 1, none⟩ _
  refine ⟨?_, hb.chg hc (fun k hk => by omega), hc⟩
  have h' : w.heap[g]? = some (.cells #[v, .int .i64 k] 90 (0, 0)) := h1
  simp [Blk2, World.setCell, Array.getElem?_modify, h']

set_option maxRecDepth 100000 in
set_option maxHeartbeats 1000000 in
theorem pick_any (g N : Nat) (n : Int) (w : World) (hr : Rd w g N) (hN : N ≤ 1000000) (hn : n ≤ 1000000) :
    Calls Try.prog 34 #[.pointer (some ⟨g, 0, none⟩), .int .i64 n] w fun e w' => Picks g (N + 1) w e w' (PickN n) := by
  obtain ⟨v, k, L, hb, hk, hL, hby⟩ := hr
  obtain ⟨h1, h2, h3⟩ := rd_next hb hby hL
  obtain ⟨c0, c1, f0, f1⟩ := hb.cells
  obtain ⟨w1, hw1⟩ : ∃ w1 : World, w1 = w.setCell ⟨g, 1, none⟩ (.int .i64 ((k : Int) + 1)) := ⟨_, rfl⟩
  rw [← hw1] at h1 h2 h3
  obtain ⟨d0, d1, _, _⟩ := h1.cells
  have hR : Rd w1 g (N + 1) := ⟨v, k + 1, L, h1, by omega, hL, h2⟩
  clear h2
  obtain ⟨ao, cap, rfl, hcap, hmx, hcell⟩ := hby
  have hcap2 : cap ≤ 9223372036854775807 := by unfold maxLen at hmx; omega
  have HC := Lib.hid hcell
  have HR := Lib.hid hR
  have H3 := Lib.hid h3
  have HW := Lib.hid hw1
  clear hcell hR h3 hw1 hb h1 hmx
  by_cases hn1 : n < 1
  · have hd : decide (n < 1) = true := by simp; omega
    go_enter Try.func34, Try.ntmps34
    go_wp2_with fail
    go_ret
    rw [← HW.out]
    exact ⟨0, rfl, ⟨Int.le_refl _, fun h => by omega, fun _ => rfl⟩, HR.out, H3.out⟩
  · have hd : decide (n < 1) = false := by simp; omega
    by_cases hL0 : L = 0
    · subst hL0
      go_enter Try.func34, Try.ntmps34
      go_wp2_with fail
      all_goals
        rw [← HW.out]
      all_goals
        go_wp2_with fail
        go_ret
        exact ⟨0, rfl, ⟨Int.le_refl _, fun h => by omega, fun _ => rfl⟩, HR.out, H3.out⟩
    · have hLd : ((L : Int) == 0) = false := by simp; omega
      by_cases hkL : k < L
      · obtain ⟨b, o, x, hbg, rfl, cx, hx0, hx1⟩ := HC.out k hkL
        go_enter Try.func34, Try.ntmps34
        go_wp2_with fail
        rw [← HW.out]
        go_ret
        have hm1 := Int.emod_nonneg x (show n ≠ 0 by omega)
        have hm2 := Int.emod_lt_of_pos x (show 0 < n by omega)
        exact ⟨_, rfl, ⟨hm1, fun _ => hm2, fun h => by omega⟩, HR.out, H3.out⟩
      · have hkl : (L : Int) ≤ k := by omega
        have hk6 : (k : Int) ≤ 1000000 := by omega
        have hL1 : (1 : Int) ≤ L := by omega
        have hL2 : (L : Int) ≤ 2000 := by omega
        have hi1 : k % L < L := Nat.mod_lt _ (by omega)
        obtain ⟨j, hj⟩ : ∃ j : Nat, ((k : Int) * 7 + 3) % (L : Int) = j := ⟨(((k : Int) * 7 + 3) % (L : Int)).toNat, by have := Int.emod_nonneg ((k : Int) * 7 + 3) (show (L : Int) ≠ 0 by omega); omega⟩
        have hi2 : j < L := by have := Int.emod_lt_of_pos ((k : Int) * 7 + 3) (show (0 : Int) < L by omega); omega
        obtain ⟨b, o, x, hbg, rfl, cx, hx0, hx1⟩ := HC.out _ hi1
        obtain ⟨b', o', y, _, eb, cy, hy0, hy1⟩ := HC.out _ hi2
        simp only [Option.some.injEq, Addr.mk.injEq, and_true] at eb
        obtain ⟨rfl, rfl⟩ := eb
        have hbg' : b ≠ g := by omega
        obtain ⟨q, hq⟩ : ∃ q : Nat, (k : Int) / (L : Int) = q := ⟨k / L, by simp⟩
        have hq6 : (q : Int) ≤ 1000000 := by have := Int.ediv_le_self (L : Int) (show (0 : Int) ≤ k by omega); omega
        have hx := xor_int (a := x * 131 + y * 1117 + (k : Int) * 29 + (q : Int) * 53) (b := (x * 131 + y * 1117 + (k : Int) * 29 + (q : Int) * 53) / 64) (by omega) (by omega)
        obtain ⟨z, hz⟩ : ∃ z, bits BinOp.xor IntKind.i64 (x * 131 + y * 1117 + (k : Int) * 29 + (q : Int) * 53) ((x * 131 + y * 1117 + (k : Int) * 29 + (q : Int) * 53) / 64) = z := ⟨_, rfl⟩
        rw [hz] at hx
        have hm1 := Int.emod_nonneg z (show n ≠ 0 by omega)
        have hm2 := Int.emod_lt_of_pos z (show 0 < n by omega)
        have HM := Lib.hid (And.intro hm1 hm2)
        clear hm1 hm2
        have cx' := H3.out.cell cx hbg'
        have cy' := H3.out.cell cy hbg'
        go_enter Try.func34, Try.ntmps34
        go_wp2_with fail
        rw [← HW.out]
        clear cx cy c0 c1
        go_quiet (fail)
        go_wp2_with fail
        go_ret
        exact ⟨_, rfl, ⟨HM.out.1, fun _ => HM.out.2, fun h => by omega⟩, HR.out.new (New.drewN _ _), Chg.trans H3.out (New.drewN _ _) (fun _ _ x => x) (fun _ _ x => x.elim)⟩
end Go.Proofs.Ytahgjfmdafhedaa
