/- Which sets help a column: by the solver and by the ranks. Plain. impl.least: the least sets for which a question holds. spec.helps. The closure of impl.helpers. impl.helpers. spec.helpers. -/
import Derived.Test.YtaaajekibfaoeaaPlaM
import Derived.Test.YtaaajekibfaoeaaSolS
import Derived.Test.YtaaajekibfaoeaaBitL
import Derived.Test.YtaaajekibfaoeaaKnow
import Derived.Test.YtaaajekibfaoeaaLawK
import Derived.Test.YtaaajekibfaoeaaLeaf
import Derived.Test.YtaaajekibfaoeaaBase
namespace Go.Proofs.Ytaaajekibfaoeaa
open Go.RowKit Mat
set_option linter.unusedVariables false

/-- The set does not hold i and helps it. -/
def HelpQ (q : Nat) [NeZero q] (rows : List (List Int)) (n i s : Nat) : Prop := bitN s i = 0 ∧ HelpC q rows n s i

theorem SolB.help {q : Nat} [NeZero q] {rows : List (List Int)} {n s i : Nat} {out : List Int} {ok : Bool} (h : SolB q (colsTo rows s n) (colN rows i) out ok) : ok = true ↔ HelpC q rows n s i := by
  unfold HelpC
  rw [← colsTo_length rows s n]
  cases ok with
  | true => exact ⟨fun _ => (h.1 rfl).spans, fun _ => rfl⟩
  | false => exact ⟨(fun h2 => by cases h2), fun h2 => absurd h2 (h.2 rfl).2⟩

theorem help_none {q : Nat} [NeZero q] {rows : List (List Int)} {n s i : Nat} (hg : GoodRows q n rows) (hi : i < n) (h0 : wtN s n = 0) : HelpC q rows n s i ↔ ∀ r, r < (colN rows i).length → gi (colN rows i) r = 0 := by
  unfold HelpC
  rw [h0]
  have hc := colN_good hg hi
  constructor
  · rintro ⟨c, hc0⟩ r hr
    have h1 := hc0 r
    rw [hc.1] at hr
    have h2 := hc.2 r hr
    exact (phi_eq_zero h2.1 h2.2).1 h1
  · intro h
    refine ⟨fun _ => 0, fun k => ?_⟩
    show phi q (gi (colN rows i) k) = 0
    by_cases hk : k < (colN rows i).length
    · rw [h k hk, phi_zero]
    · rw [gi_ge (by omega), phi_zero]

theorem or_bits : ∀ s : Nat, s < 128 → ∀ i : Nat, i < 7 → ∀ k : Nat, k < 7 → bitN (s ||| 2 ^ i) k = if k = i then 1 else bitN s k := by decide +kernel
theorem or_small : ∀ s : Nat, s < 128 → ∀ i : Nat, i < 7 → s ||| 2 ^ i < 128 := by decide +kernel
theorem wt_full : ∀ n : Nat, n < 8 → ∀ s : Nat, s < 128 → s < 2 ^ n → wtN s 7 = n → ∀ i : Nat, i < n → bitN s i = 1 := by decide +kernel
theorem wt_less : ∀ n : Nat, n < 8 → ∀ s : Nat, s < 128 → ∀ i : Nat, i < n → bitN s i = 0 → wtN s n ≤ 6 := by decide +kernel
theorem wt_cut : ∀ n : Nat, n < 8 → ∀ s : Nat, s < 128 → s < 2 ^ n → wtN s n = wtN s 7 := by decide +kernel

theorem rank_help {q : Nat} [NeZero q] (hq : Pr q) {rows : List (List Int)} {n s i a b : Nat} (hg : GoodRows q n rows) (hc : (gr rows 0).length = n) (hn : n ≤ 7) (hs : s < 128) (hi : i < n) (hb : bitN s i = 0) (h1 : RkOf q rows s a) (h2 : RkOf q rows (s ||| 2 ^ i) b) : a = b ↔ HelpC q rows n s i := by
  obtain ⟨q1, i1, e1, _, o1, r1, rfl⟩ := h1
  obtain ⟨q2, i2, e2, _, o2, r2, rfl⟩ := h2
  obtain rfl : q = q1 := by omega
  obtain rfl : q = q2 := by omega
  rw [hc] at r1 r2
  exact (help_rank hq hg hi hb (fun k hk => or_bits s hs i (by omega) k (by omega)) r1 r2).symm
end Go.Proofs.Ytaaajekibfaoeaa

namespace Go.Proofs.Ytaaajekibfaoeaa
open Go.RowKit
set_option linter.unusedVariables false

/-- A function value that answers a question of the numbers below N, and may make memory. -/
def Asks (P : Program) (w : World) (f : Nat) (caps : Array Value) (N : Nat) (H : Nat → Prop) : Prop :=
  (∀ (xs : Array Value) (w' : World), (callFunc f xs).run P w' = .ok (.enter f xs) w') ∧
  ∀ (x : Nat) (w' : World), x < N → New w w' → Calls P f (#[.int .i64 x] ++ caps) w' fun e w'' => SaysB e (H x) ∧ New w' w''

/-- Nothing of x lies outside s. -/
def inSet (s x : Int) : Bool := decide (bits BinOp.andNot IntKind.i64 x s = 0)
theorem inSet_iff {s : Nat} (hs : s < 128) {x : Int} (h0 : 0 ≤ x) (h1 : x < 128) : inSet s x = true ↔ Sub x.toNat s := by
  obtain ⟨y, rfl⟩ : ∃ y : Nat, x = y := ⟨x.toNat, by omega⟩
  have h := Nat.and_le_left (n := y) (m := s)
  simp only [inSet, decide_eq_true_eq, Int.toNat_natCast]
  rw [andNot_i64 y (by omega) s hs]
  unfold Sub wo
  omega
theorem anyB_inSet {s : Nat} (hs : s < 128) {out : List Int} (ho : ∀ j, j < out.length → 0 ≤ gi out j ∧ gi out j < 128) : anyB (inSet s) out = false ↔ ∀ j, j < out.length → ¬ Sub (gi out j).toNat s := by
  rw [Bool.eq_false_iff]
  simp only [anyB, ne_eq, List.any_eq_true, not_exists, not_and]
  constructor
  · intro h j hj hc
    have := ho j hj
    exact h out[j] (List.getElem_mem hj) (by rw [← gi_lt hj]; exact (inSet_iff hs this.1 this.2).2 hc)
  · intro h x hx hc
    obtain ⟨j, hj, rfl⟩ := List.getElem_of_mem hx
    have := ho j hj
    rw [← gi_lt hj] at hc
    exact h j hj ((inSet_iff hs this.1 this.2).1 hc)

theorem least1_any (s : Int) (w : World) (a : Addr) (h : w.cell? a = some (.int .i64 s)) : Tells Try.prog w 144 #[.pointer (some a)] (inSet s) := by
  refine ⟨fun xs w' => by kernel_rfl, fun x w' hn => ?_⟩
  have hc := hn.cellNew h
  show Calls Try.prog 144 #[.int .i64 x, .pointer (some a)] w' _
  go_enter Try.func144, Try.ntmps144
  go_wp2_with fail
  go_ret
  exact ⟨ret_bool (by unfold inSet; rw [Bool.eq_iff_iff]; simp), rfl⟩

set_option maxRecDepth 100000 in
set_option maxHeartbeats 2000000 in
theorem least_any (n : Nat) (hn : n ≤ 7) (f : Nat) (caps : Array Value) (H : Nat → Prop) (w : World) (ha : Asks Try.prog w f caps (2 ^ n) H) :
    Calls Try.prog 90 #[.int .i64 n, .func (.func f) #[] caps] w fun e w' => GivesI w e w' (LeastTo (2 ^ n) H ((n + 1) * 2 ^ n)) := by
  have hp := pow_lt hn
  have hp0 : 0 < 2 ^ n := Nat.two_pow_pos _
  have hw12 := wrap_pow n (by omega)
  obtain ⟨N, hNN⟩ : ∃ N, N = 2 ^ n := ⟨_, rfl⟩
  rw [← hNN] at hp hp0 hw12 ha ⊢
  have HNN := Lib.hid hNN
  obtain ⟨hcf, haf⟩ := ha
  have HA := Lib.hid haf
  clear hNN haf
  go_enter Try.func90, Try.ntmps90
  go_wp2_with fail
  go_loopw [5, 11] (fun t i wr => ∃ (a : Nat) (res : List Int), i = .int .i64 a ∧ a ≤ n + 1 ∧ New w wr ∧ Own wr 3 t (res.map (Value.int .i64)) ∧ From w.heap.size t ∧ Hid (LeastTo N H (a * N) res)) (fun _ i _ => n + 1 - (intOf i).toNat)
  case atStart => exact ⟨0, [], rfl, by omega, New.alloc _ _, Own.empty _ _, From.new _ _ _, by show LeastTo N H (0 * N) []; rw [Nat.zero_mul]; rfl⟩
  case round =>
    obtain ⟨a, res, rfl, han, hnew, hown, hfrom, HD⟩ := hrel
    obtain ⟨wo1, hwo1⟩ : ∃ wo1 : World, wo1 = wr := ⟨_, rfl⟩
    rw [← hwo1] at hnew hown
    rw [← hwo1]
    clear hwo1
    have HO := Lib.hid (And.intro hown (And.intro hfrom hnew))
    clear hown hfrom hnew
    by_cases hal : a < n + 1
    · have hdl : decide ((a : Int) < (n : Int) + 1) = true := by simp; omega
      go_wp2_with fail
      clear hdl
      go_loopw [5, 16] (fun t i wr => ∃ (s : Nat) (res : List Int), i = .int .i64 s ∧ s ≤ N ∧ New w wr ∧ Own wr 3 t (res.map (Value.int .i64)) ∧ From w.heap.size t ∧ Hid (LeastTo N H (a * N + s) res)) (fun _ i _ => N - (intOf i).toNat)
      case atStart => exact ⟨0, res, rfl, by omega, HO.out.2.2, HO.out.1, HO.out.2.1, HD.out⟩
      case round =>
        clear HD HO
        clear res
        obtain ⟨s, res, rfl, hs, hnew, hown, hfrom, HD⟩ := hrel
        obtain ⟨wz, hwz⟩ : ∃ wz : World, wz = wr := ⟨_, rfl⟩
        rw [← hwz] at hnew hown
        rw [← hwz]
        clear hwz
        have hbd := HD.out.bounds hp0
        have hrl : res.length ≤ 1200 := by
          have : a * N ≤ 7 * 128 := Nat.mul_le_mul (by omega) (by omega)
          omega
        have hlen : (res.map (Value.int .i64)).length + 1 ≤ 1099511627776 := by rw [List.length_map]; omega
        have hml : Mid res.length := by unfold Mid; omega
        have HBD := Lib.hid hbd
        obtain ⟨a3, l3, c3, rfl, _, _, _⟩ := hown.opened (by unfold Mid; omega)
        by_cases hsN : s < N
        · have hnb : New wz (wz.alloc (.cells #[.int .i64 s] 3)) := New.alloc _ _
          have hbb := Blk1.alloc wz (.int .i64 s) 3
          have HO := Lib.hid (And.intro (hown.new hnb) (And.intro hfrom (And.intro (hnew.trans hnb) hbb)))
          obtain ⟨wb, hwb⟩ : ∃ wb : World, wb = wz.alloc (.cells #[.int .i64 s] 3) := ⟨_, rfl⟩
          rw [← hwb] at HO
          have HWB := Lib.hid hwb
          clear hown hfrom hnew hnb hbb hbd hwb
          go_wp2_with fail
          rw [← HWB.out]
          refine (size_any s _ (by omega)).mono ?_
          rintro e w' ⟨rfl, rfl⟩
          obtain ⟨c0, c1⟩ := HO.out.2.2.2.cells
          have hN0 : 0 < N := hp0
          obtain ⟨c, hc⟩ : ∃ c, c = wtN s 7 := ⟨_, rfl⟩
          rw [← hc]
          have HC := Lib.hid hc
          clear hc
          by_cases hsz : c = a
          · subst hsz
            cases hany : anyB (inSet (s : Int)) res with
            | true =>
              have HANY := Lib.hid hany
              clear hany
              have hin := HO.out.1.isI hml
              have HIN := Lib.hid hin
              clear hin
              go_wp2_with (go_at_call 142; refine (containsFunc_any _ _ _ _ _ _ HIN.out (least1_any _ _ _ c0)).mono ?_; rintro e w' ⟨rfl, rfl⟩; rw [HANY.out])
              go_roundw
              case rel => exact ⟨s + 1, res, by go_num, by omega, HO.out.2.2.1, HO.out.1, HO.out.2.1, HD.out.no hsN (fun h => by
                have := (anyB_inSet (by omega) (fun j hj => ⟨(HBD.out.2 j hj).1, by have := (HBD.out.2 j hj).2; omega⟩)).2 h.2.2
                rw [HANY.out] at this
                cases this)⟩
              case measure => simp [intOf]; omega
            | false =>
              have hns := (anyB_inSet (s := s) (by omega) (fun j hj => ⟨(HBD.out.2 j hj).1, by have := (HBD.out.2 j hj).2; omega⟩)).1 hany
              have HNS := Lib.hid hns
              have HANY := Lib.hid hany
              clear hany hns
              have hin := HO.out.1.isI hml
              have HIN := Lib.hid hin
              clear hin
              go_wp2_with (go_at_call 142; refine (containsFunc_any _ _ _ _ _ _ HIN.out (least1_any _ _ _ c0)).mono ?_; rintro e w' ⟨rfl, rfl⟩; rw [HANY.out])
              refine (HA.out s _ hsN HO.out.2.2.1).mono ?_
              rintro e w5 ⟨⟨b, rfl, hb⟩, hn5⟩
              have HB := Lib.hid hb
              have HO5 := Lib.hid (And.intro (HO.out.1.new hn5) (And.intro HO.out.2.1 (HO.out.2.2.1.trans hn5)))
              obtain ⟨d0, d1⟩ := (HO.out.2.2.2.new hn5).cells
              clear hb hn5 c0 c1
              cases b with
              | true =>
                go_wp2_with (at_builtin; refine wpList_app1 rfl _ _ _ rfl tyInt _ HO5.out.1 rfl _ _ rfl rfl rfl hlen ?_; intro v2 w6 k1 k2 k3; have K2 := Lib.hid (And.intro k1 (And.intro k2 k3)); clear k1 k2 k3)
                go_roundw
                case rel =>
                  obtain ⟨k1, k2, k3⟩ := K2.out
                  exact ⟨s + 1, res ++ [(s : Int)], by go_num, by omega, HO5.out.2.2.then k2 (fun i hi => HO5.out.2.1 i hi), by rw [List.map_append]; exact k1, (fun g hg => by
                    rcases k3 g hg with x | x
                    · exact HO5.out.2.1 g x
                    · exact Nat.le_trans HO5.out.2.2.size x), HD.out.yes hsN HC.out.symm (HB.out.1 (by trivial)) HNS.out⟩
                case measure => simp [intOf]; omega
              | false =>
                go_wp2_with fail
                go_roundw
                case rel => exact ⟨s + 1, res, by go_num, by omega, HO5.out.2.2, HO5.out.1, HO5.out.2.1, HD.out.no hsN (fun h => by have := HB.out.2 h.2.1; cases this)⟩
                case measure => simp [intOf]; omega
          · have hd : ((c : Int) == (a : Int)) = false := by simp; omega
            have HSZ := Lib.hid hsz
            clear hsz
            go_wp2_with fail
            go_roundw
            case rel => exact ⟨s + 1, res, by go_num, by omega, HO.out.2.2.1, HO.out.1, HO.out.2.1, HD.out.no hsN (fun h => HSZ.out (by rw [HC.out]; exact h.1))⟩
            case measure => simp [intOf]; omega
        · obtain rfl : s = N := by omega
          clear hbd
          go_wp2_with fail
          go_roundw
          case rel => exact ⟨a + 1, res, by go_num, by omega, hnew, hown, hfrom, by have := HD.out.turn; rw [Nat.add_zero] at this; exact this⟩
          case measure => simp [intOf]; omega
    · obtain rfl : a = n + 1 := by omega
      have hbd := HD.out.bounds hp0
      have hlm : Mid (res.map (Value.int .i64)).length := by
        have : (n + 1) * N ≤ 8 * 128 := Nat.mul_le_mul (by omega) (by omega)
        rw [List.length_map]; unfold Mid; omega
      clear hbd
      go_wp2_with fail
      refine (clip_any _ _ _ HO.out.1 hlm).mono ?_
      rintro e w' ⟨u6, rfl, ho, hub, rfl⟩
      have HU := Lib.hid (And.intro ho hub)
      clear ho hub
      go_wp2_with fail
      go_ret
      exact ⟨u6, res, rfl, HU.out.1, (fun g hg => HO.out.2.1 g (by rw [← HU.out.2]; exact hg)), HD.out, HO.out.2.2⟩
end Go.Proofs.Ytaaajekibfaoeaa

namespace Go.Proofs.Ytaaajekibfaoeaa
open Go.RowKit Mat
set_option linter.unusedVariables false

/-- How many are not 0. -/
def hvTo (xs : List Int) : Nat → Nat
  | 0 => 0
  | k + 1 => if gi xs k = 0 then hvTo xs k else hvTo xs k + 1
theorem hvTo_le (xs : List Int) : ∀ k, hvTo xs k ≤ k
  | 0 => Nat.le_refl _
  | k + 1 => by have := hvTo_le xs k; unfold hvTo; split <;> omega
theorem hvTo_zero (xs : List Int) : ∀ k, hvTo xs k = 0 ↔ ∀ r, r < k → gi xs r = 0
  | 0 => ⟨fun _ r hr => by omega, fun _ => rfl⟩
  | k + 1 => by
    have ih := hvTo_zero xs k
    unfold hvTo
    split
    · rename_i h
      rw [ih]
      exact ⟨fun h2 r hr => (if e : r = k then by rw [e]; exact h else h2 r (by omega)), fun h2 r hr => h2 r (by omega)⟩
    · rename_i h
      exact ⟨fun h2 => by omega, fun h2 => absurd (h2 k (by omega)) h⟩

end Go.Proofs.Ytaaajekibfaoeaa

namespace Go.Proofs.Ytaaajekibfaoeaa
open Go.RowKit Mat
set_option linter.unusedVariables false

end Go.Proofs.Ytaaajekibfaoeaa

namespace Go.Proofs.Ytaaajekibfaoeaa
open Go.RowKit Mat
set_option linter.unusedVariables false

end Go.Proofs.Ytaaajekibfaoeaa

namespace Go.Proofs.Ytaaajekibfaoeaa
open Go.RowKit Mat
set_option linter.unusedVariables false

end Go.Proofs.Ytaaajekibfaoeaa
