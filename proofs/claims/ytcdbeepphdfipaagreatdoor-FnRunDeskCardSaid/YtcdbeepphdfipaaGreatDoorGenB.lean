/- The generators' small parts for codes: powers, inverses, different numbers. -/
import Derived.Test.YtcdbeepphdfipaaGreatDoorGens
import Derived.Deep.RegionLaw
namespace Go.Proofs.YtcdbeepphdfipaaGreatDoor
open Go.RowKit
set_option linter.unusedVariables false

/-- append, as one step of a region that draws its order. -/
theorem step_app {P : Program} {ops : Array Oper} {o : Oper} {a : Act} {w : World} {K : Act → World → Prop} {Q : Exit → Act → World → Prop} {E : Prop} (hgd : o.guard = none) (s x : Operand) (t : TypeId)
    (ho : o.op = .call { callee := .builtin .append, args := #[s, x], argTypes := #[t, t] })
    {e : TypeId} {z : Value} (T : OneTy P t e z) {v : Value} {xs : List Value} (hv : Own w e v xs) (hs : a.eval s = v)
    (so : Option Addr) (m c : Nat) (news : List Value) (hx : a.eval x = .slice so m c) (hl : news.length = m) (hnil : so = none → m = 0 ∧ c = 0)
    (hnews : ∀ ad, so = some ad → ∀ j u, news[j]? = some u → w.cell? (ad.add j) = some u) (h1 : ∀ u ∈ news, u.oneCell' = true) (hb : xs.length + m ≤ 1099511627776)
    (h : ∀ v' w', Own w' e v' (xs ++ news) → Chg (fun k => v.ownBlock = some k) w w' → (∀ g, v'.ownBlock = some g → v.ownBlock = some g ∨ w.heap.size ≤ g) → K (a.put o.dst v') w') :
    if Region.wanted o (yielded ops a.tmps) = true then Oper.wp P o a w K Q else E := by
  have hw : Region.wanted o (yielded ops a.tmps) = true := by simp [Region.wanted, hgd]
  rw [if_pos hw]
  obtain ⟨v', w', hr, h2, h3, h4⟩ := run_app (P := P) w (ty := o.type) T hv so m c news hl hnil hnews h1 hb
  unfold Oper.wp execOp
  simp only [ho, resolve, invoke, builtin, Sem.run_bind, Sem.run_pure, Result.andThen_ok, List.map_toArray, List.map_cons, List.map_nil, hs, hx, hr]
  exact h v' w' h2 h3 h4

/-- It ends with a number below p; nothing that was there has turned. -/
def TellsP (p : Int) (w : World) (e : Ending) (w' : World) : Prop := ∃ x : Int, e = .returned (.int .i64 x) ∧ (0 ≤ x ∧ x < p) ∧ w = w'

set_option maxHeartbeats 1000000 in
theorem powerBy_any (p x i : Int) (w : World) (hp : 2 ≤ p ∧ p ≤ 7) (hx : 0 ≤ x ∧ x < p) (hi : 0 ≤ i ∧ i ≤ 10) :
    Calls Tryz.prog 117 #[.int .i64 p, .int .i64 x, .int .i64 i] w fun e w' => TellsP p w e w' := by
  go_enter Tryz.func117, Tryz.ntmps117
  go_wp2
  go_loop [2, 7] (fun t2 t7 => ∃ j y : Int, t2 = .int .i64 j ∧ t7 = .int .i64 y ∧ 0 ≤ j ∧ j ≤ i ∧ 0 ≤ y ∧ y < p) (fun t2 _ => (intOf t2).toNat)
  case atStart => exact ⟨i, 1, rfl, rfl, by omega, by omega, by omega, by omega⟩
  case round =>
    obtain ⟨j, y, rfl, rfl, hj0, hj, hy0, hy⟩ := hrel
    have hm := mul_small (x := y) (y := x) (by omega) (by omega) (by omega) (by omega)
    have h1 := Int.emod_nonneg (y * x) (show p ≠ 0 by omega)
    have h2 := Int.emod_lt_of_pos (y * x) (show 0 < p by omega)
    by_cases hj1 : 0 < j
    · go_wp2
      go_round
      case rel => exact ⟨j - 1, y * x % p, by go_num, by go_num, by omega, by omega, by omega, by omega⟩
      case measure => simp [intOf]; omega
    · go_wp2
      go_ret
      exact ⟨y, rfl, ⟨hy0, hy⟩, rfl⟩

set_option maxHeartbeats 1000000 in
theorem specInverse_some (p x : Int) (w : World) (hp : 2 ≤ p ∧ p ≤ 7) (hx : 0 ≤ x ∧ x < p) :
    Calls Tryz.prog 107 #[.int .i64 p, .int .i64 x] w fun e w' => TellsP p w e w' := by
  go_enter Tryz.func107, Tryz.ntmps107
  go_wp2
  go_loop [5] (fun y => ∃ k : Int, y = .int .i64 k ∧ 1 ≤ k ∧ k ≤ p) (fun y => (p - intOf y).toNat)
  case atStart => exact ⟨1, rfl, by omega, by omega⟩
  case round =>
    obtain ⟨k, rfl, hk1, hk2⟩ := hrel
    have hm := mul_small (x := x) (y := k) (by omega) (by omega) (by omega) (by omega)
    by_cases hkp : k < p
    · by_cases hf : x * k % p = 1
      · go_wp2
        go_ret
        exact ⟨k, rfl, ⟨by omega, hkp⟩, rfl⟩
      · go_wp2
        go_round
        case rel => exact ⟨k + 1, rfl, by omega, by omega⟩
        case measure => simp [intOf]; omega
    · go_wp2
      go_ret
      exact ⟨0, rfl, ⟨by omega, by omega⟩, rfl⟩

/-- It tells whether the numbers are different rests; of which only that they are rests is said. -/
def TellsD (p : Int) (xs : List Int) (w : World) (e : Ending) (w' : World) : Prop := ∃ b : Bool, e = .returned (.bool b) ∧ (b = true → ∀ i, i < xs.length → 0 ≤ gi xs i ∧ gi xs i < p) ∧ New w w'

set_option maxHeartbeats 2000000 in
theorem different_any (p : Int) (v : Value) (xs : List Int) (w : World) (hp : -1000 ≤ p ∧ p ≤ 1000) (hx : IsI w v xs) :
    Calls Tryz.prog 75 #[.int .i64 p, v] w fun e w' => TellsD p xs w e w' := by
  obtain ⟨ao, n, cap, rfl, HN, hn⟩ := hx.shape
  have HX := Lib.hid hx
  clear hx
  go_enter Tryz.func75, Tryz.ntmps75
  go_wp2
  go_loopw [5] (fun t wr => ∃ k : Nat, t = .int .i64 k ∧ k ≤ n ∧ Hid (New w wr ∧ ∀ j, j < k → 0 ≤ gi xs j ∧ gi xs j < p)) (fun t _ => n - (intOf t).toNat)
  case atStart => exact ⟨0, rfl, Nat.zero_le _, Chg.refl _ _, fun j hj => by omega⟩
  case round =>
    obtain ⟨k, rfl, hk, HD⟩ := hrel
    by_cases hkn : k < n
    · obtain ⟨b, o, rfl, ck⟩ := (HX.out.new HD.out.1).at hkn
      cases hin : inB (gi xs k) 0 (p - 1) with
      | false =>
        have HI := Lib.hid hin
        clear hin
        go_wp2_with (go_at_call 106; refine (inRange_any _ _ _ _).mono ?_; rintro e w' ⟨rfl, rfl⟩; rw [HI.out])
        go_ret
        exact ⟨false, rfl, fun h => (by cases h), HD.out.1⟩
      | true =>
        have HI := Lib.hid hin
        clear hin
        obtain ⟨wo, hwo⟩ : ∃ wo : World, wo = wr := ⟨_, rfl⟩
        rw [← hwo] at HD ck
        rw [← hwo]
        clear hwo
        go_wp2_with (go_at_call 106; refine (inRange_any _ _ _ _).mono ?_; rintro e w' ⟨rfl, rfl⟩; rw [HI.out])
        go_loopw [6] (fun t wr => ∃ j : Nat, t = .int .i64 j ∧ j ≤ k ∧ New wo wr) (fun t _ => k - (intOf t).toNat)
        case atStart => exact ⟨0, rfl, Nat.zero_le _, Chg.refl _ _⟩
        case round =>
          obtain ⟨j, rfl, hj, hnew⟩ := hrel
          have hn2 := HD.out.1.trans hnew
          by_cases hjk : j < k
          · obtain ⟨b1, o1, e1, cj⟩ := (HX.out.new hn2).at (show j < n by omega)
            simp only [Option.some.injEq, Addr.mk.injEq, and_true] at e1
            obtain ⟨rfl, rfl⟩ := e1
            have ck' := hnew.cellNew ck
            have HN2 := Lib.hid (And.intro hn2 hnew)
            clear hn2 hnew ck
            by_cases he : gi xs j = gi xs k
            · go_wp2
              go_quiet (fail)
              go_wp2
              go_ret
              exact ⟨false, rfl, fun h => (by cases h), HN2.out.1.trans (New.drewN _ _)⟩
            · go_wp2
              go_quiet (fail)
              go_wp2
              go_roundw
              case rel => exact ⟨j + 1, by go_num, by omega, HN2.out.2.trans (New.drewN _ _)⟩
              case measure => simp [intOf]; omega
          · obtain rfl : j = k := by omega
            have HN2 := Lib.hid hn2
            clear hnew hn2
            go_wp2
            go_roundw
            case rel => exact ⟨j + 1, by go_num, by omega, HN2.out, fun i hi => by
              by_cases e : i < j
              · exact HD.out.2 i e
              · obtain rfl : i = j := by omega
                have := inB_iff.1 HI.out
                omega⟩
            case measure => simp [intOf]; omega
    · obtain rfl : k = n := by omega
      go_wp2
      go_ret
      exact ⟨true, rfl, fun _ i hi => HD.out.2 i (by rw [HN.out]; exact hi), HD.out.1⟩
end Go.Proofs.YtcdbeepphdfipaaGreatDoor
