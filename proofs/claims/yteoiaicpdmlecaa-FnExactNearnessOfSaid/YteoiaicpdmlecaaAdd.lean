/- (field).add: a multiple of a list is added to another one; slices.Clone and slices.Clip. -/
import Derived.Test.YteoiaicpdmlecaaIdx
import Derived.Outline
namespace Go.Proofs.Yteoiaicpdmlecaa
open Go.RowKit
set_option linter.unusedVariables false

theorem set_map_int {xs : List Int} {k : Nat} {y : Int} : (xs.map (Value.int .i64)).set k (.int .i64 y) = (xs.set k y).map (Value.int .i64) := by rw [List.map_set]

theorem gv_map_int {xs : List Int} {k : Nat} (h : k < xs.length) : gv (xs.map (Value.int .i64)) k = .int .i64 (gi xs k) := by
  rw [gv_lt (by simpa using h), gi_lt h]; simp

theorem mul_small' {x y : Int} (h1 : -1000 ≤ x) (h2 : x ≤ 1000) (h3 : -1000 ≤ y) (h4 : y ≤ 1000) : -1000000 ≤ x * y ∧ x * y ≤ 1000000 := by
  have a := Int.mul_nonneg (show 0 ≤ 1000 - x by omega) (show 0 ≤ 1000 - y by omega)
  have b := Int.mul_nonneg (show 0 ≤ 1000 + x by omega) (show 0 ≤ 1000 + y by omega)
  have c := Int.mul_nonneg (show 0 ≤ 1000 - x by omega) (show 0 ≤ 1000 + y by omega)
  have d := Int.mul_nonneg (show 0 ≤ 1000 + x by omega) (show 0 ≤ 1000 - y by omega)
  simp only [Int.sub_mul, Int.mul_sub, Int.add_mul, Int.mul_add] at a b c d
  omega

/-- All numbers of a list are small. -/
def Sm (xs : List Int) : Prop := ∀ i, i < xs.length → -1000 ≤ gi xs i ∧ gi xs i ≤ 1000

set_option maxHeartbeats 1000000 in
theorem add_any (p by' : Int) (vt vl : Value) (xs ys : List Int) (w : World) (hp : 0 < p ∧ p ≤ 1000) (hby : -1000 ≤ by' ∧ by' ≤ 1000) (ht : Own w 3 vt (xs.map (Value.int .i64))) (hl : IsI w vl ys) (hap : Apart vt vl)
    (hlen : ys.length ≤ xs.length) (hsx : Sm xs) (hsy : Sm ys) (hmx : Mid xs.length) :
    Calls Try.prog 98 #[.int .i64 p, vt, .int .i64 by', vl] w fun e w' => e = .returned (.tuple #[]) ∧ Own w' 3 vt ((addZ p xs by' ys).map (Value.int .i64)) ∧ Chg (fun k => vt.ownBlock = some k) w w' := by
  obtain ⟨al, n, cl, rfl, HN, hn⟩ := hl.shape
  have HT := Lib.hid ht
  have HL := Lib.hid hl
  have HX := Lib.hid hsx
  have HY := Lib.hid hsy
  have HA := Lib.hid hap
  have HLEN := Lib.hid hlen
  obtain ⟨at', nx, ct, rfl, HNX, hmx', _⟩ := ht.opened (by rw [List.length_map]; exact hmx)
  have hle : n ≤ nx := by rw [HN.out, HNX.out, List.length_map]; exact hlen
  clear ht hl hsx hsy hap hlen hmx
  go_enter Try.func98, Try.ntmps98
  go_wp2_with fail
  go_loopw [12] (fun i wr => ∃ k : Nat, i = .int .i64 k ∧ k ≤ n ∧ Own wr 3 (.slice at' nx ct) ((addTo p xs by' ys k).map (Value.int .i64)) ∧ Chg (fun k => (Value.slice at' nx ct).ownBlock = some k) w wr) (fun i _ => n - (intOf i).toNat)
  case atStart => exact ⟨0, rfl, Nat.zero_le _, by rw [addTo_zero]; exact HT.out, Chg.refl _ _⟩
  case round =>
    obtain ⟨k, rfl, hk, hown, hchg⟩ := hrel
    have HO := Lib.hid hown
    have HC := Lib.hid hchg
    clear hown hchg
    by_cases hkn : k < n
    · have hkx : k < xs.length := by have := HNX.out; rw [List.length_map] at this; omega
      have hl' := HL.out.chg HC.out (fun g hg hs => HA.out g hs hg)
      obtain ⟨bl, ol, rfl, cl'⟩ := hl'.at hkn
      obtain ⟨g, rfl⟩ := HO.out.head (i := k) (by rw [List.length_map, addTo_length]; exact hkx)
      have hcell := HO.out.cell (i := k) (by rw [List.length_map, addTo_length]; exact hkx)
      rw [gv_map_int (by rw [addTo_length]; exact hkx), addTo_get _ _ _ _ _ hkx, if_neg (by omega)] at hcell
      obtain ⟨ct1, ct2⟩ := hcell
      have hx1 := HX.out k hkx
      have hy1 := HY.out k (by rw [← HN.out]; exact hkn)
      have hm := mul_small' hby.1 hby.2 hy1.1 hy1.2
      have hb0 := Int.emod_nonneg (gi xs k + by' * gi ys k) (show p ≠ 0 by omega)
      have hb1 := Int.emod_lt_of_pos (gi xs k + by' * gi ys k) hp.1
      clear hl'
      go_wp2_with (go_at_call 111; refine (rest_any _ _ _ (by omega) (by omega)).mono ?_; rintro e w' ⟨rfl, rfl⟩)
      go_roundw
      case rel =>
        refine ⟨k + 1, by go_num, by omega, ?_, ?_⟩
        · have := HO.out.set k (.int .i64 ((gi xs k + by' * gi ys k) % p))
          rw [set_map_int, addTo_succ _ _ _ _ _ hkx] at this
          exact this
        · exact Chg.trans HC.out (Chg.setCell _ _ _) (fun _ _ x => x) (fun i _ x => by rw [x]; rfl)
      case measure => simp [intOf]; omega
    · obtain rfl : k = n := by omega
      go_wp2_with fail
      go_end0
      exact ⟨rfl, by rw [addZ, ← HN.out]; exact HO.out, HC.out⟩
end Go.Proofs.Yteoiaicpdmlecaa
