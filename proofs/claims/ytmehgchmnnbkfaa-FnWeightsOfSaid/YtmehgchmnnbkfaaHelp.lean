/- Which sets help a column: by the solver and by the ranks. Plain. impl.least: the least sets for which a question holds. spec.helps. The closure of impl.helpers. impl.helpers. spec.helpers. -/
import Derived.Test.YtmehgchmnnbkfaaPlaM
import Derived.Test.YtmehgchmnnbkfaaSolS
import Derived.Test.YtmehgchmnnbkfaaBitL
import Derived.Test.YtmehgchmnnbkfaaKnow
import Derived.Test.YtmehgchmnnbkfaaLawK
import Derived.Test.YtmehgchmnnbkfaaLeaf
import Derived.Test.YtmehgchmnnbkfaaBase
namespace Go.Proofs.Ytmehgchmnnbkfaa
open Go.RowKit Mat
set_option linter.unusedVariables false

/-- The set does not hold i and helps it. -/
def HelpQ (q : Nat) [NeZero q] (rows : List (List Int)) (n i s : Nat) : Prop := bitN s i = 0 ∧ HelpC q rows n s i

theorem SolB.help {q : Nat} [NeZero q] {rows : List (List Int)} {n s i : Nat} {out : List Int} {ok : Bool} (h : SolB q (colsTo rows s n) (colN rows i) out ok) : ok = true ↔ HelpC q rows n s i := by
  unfold HelpC
  rw [← colsTo_length rows s n]
  cases ok with
  | true => exact ⟨fun _ => (h.1 rfl).spans, fun _ => rfl⟩
  | false => exact ⟨(fun h2 => by cases h2), fun h2 => absurd h2 (h.2 rfl).2⟩

theorem help_none {q : Nat} [NeZero q] {rows : List (List Int)} {n s i : Nat} (hg : GoodRows q n rows) (hi : i < n) (h0 : wtN s n = 0) : HelpC q rows n s i ↔ ∀ r, r < (colN rows i).length → gi (colN rows i) r = 0 := by
  unfold HelpC
  rw [h0]
  have hc := colN_good hg hi
  constructor
  · rintro ⟨c, hc0⟩ r hr
    have h1 := hc0 r
    rw [hc.1] at hr
    have h2 := hc.2 r hr
    exact (phi_eq_zero h2.1 h2.2).1 h1
  · intro h
    refine ⟨fun _ => 0, fun k => ?_⟩
    show phi q (gi (colN rows i) k) = 0
    by_cases hk : k < (colN rows i).length
    · rw [h k hk, phi_zero]
    · rw [gi_ge (by omega), phi_zero]

theorem or_bits : ∀ s : Nat, s < 128 → ∀ i : Nat, i < 7 → ∀ k : Nat, k < 7 → bitN (s ||| 2 ^ i) k = if k = i then 1 else bitN s k := by decide +kernel
theorem or_small : ∀ s : Nat, s < 128 → ∀ i : Nat, i < 7 → s ||| 2 ^ i < 128 := by decide +kernel
theorem wt_full : ∀ n : Nat, n < 8 → ∀ s : Nat, s < 128 → s < 2 ^ n → wtN s 7 = n → ∀ i : Nat, i < n → bitN s i = 1 := by decide +kernel
theorem wt_less : ∀ n : Nat, n < 8 → ∀ s : Nat, s < 128 → ∀ i : Nat, i < n → bitN s i = 0 → wtN s n ≤ 6 := by decide +kernel
theorem wt_cut : ∀ n : Nat, n < 8 → ∀ s : Nat, s < 128 → s < 2 ^ n → wtN s n = wtN s 7 := by decide +kernel

theorem rank_help {q : Nat} [NeZero q] (hq : Pr q) {rows : List (List Int)} {n s i a b : Nat} (hg : GoodRows q n rows) (hc : (gr rows 0).length = n) (hn : n ≤ 7) (hs : s < 128) (hi : i < n) (hb : bitN s i = 0) (h1 : RkOf q rows s a) (h2 : RkOf q rows (s ||| 2 ^ i) b) : a = b ↔ HelpC q rows n s i := by
  obtain ⟨q1, i1, e1, _, o1, r1, rfl⟩ := h1
  obtain ⟨q2, i2, e2, _, o2, r2, rfl⟩ := h2
  obtain rfl : q = q1 := by omega
  obtain rfl : q = q2 := by omega
  rw [hc] at r1 r2
  exact (help_rank hq hg hi hb (fun k hk => or_bits s hs i (by omega) k (by omega)) r1 r2).symm
end Go.Proofs.Ytmehgchmnnbkfaa

namespace Go.Proofs.Ytmehgchmnnbkfaa
open Go.RowKit
set_option linter.unusedVariables false

/-- A function value that answers a question of the numbers below N, and may make memory. -/
def Asks (P : Program) (w : World) (f : Nat) (caps : Array Value) (N : Nat) (H : Nat → Prop) : Prop :=
  (∀ (xs : Array Value) (w' : World), (callFunc f xs).run P w' = .ok (.enter f xs) w') ∧
  ∀ (x : Nat) (w' : World), x < N → New w w' → Calls P f (#[.int .i64 x] ++ caps) w' fun e w'' => SaysB e (H x) ∧ New w' w''

/-- Nothing of x lies outside s. -/
def inSet (s x : Int) : Bool := decide (bits BinOp.andNot IntKind.i64 x s = 0)
theorem inSet_iff {s : Nat} (hs : s < 128) {x : Int} (h0 : 0 ≤ x) (h1 : x < 128) : inSet s x = true ↔ Sub x.toNat s := by
  obtain ⟨y, rfl⟩ : ∃ y : Nat, x = y := ⟨x.toNat, by omega⟩
  have h := Nat.and_le_left (n := y) (m := s)
  simp only [inSet, decide_eq_true_eq, Int.toNat_natCast]
  rw [andNot_i64 y (by omega) s hs]
  unfold Sub wo
  omega
theorem anyB_inSet {s : Nat} (hs : s < 128) {out : List Int} (ho : ∀ j, j < out.length → 0 ≤ gi out j ∧ gi out j < 128) : anyB (inSet s) out = false ↔ ∀ j, j < out.length → ¬ Sub (gi out j).toNat s := by
  rw [Bool.eq_false_iff]
  simp only [anyB, ne_eq, List.any_eq_true, not_exists, not_and]
  constructor
  · intro h j hj hc
    have := ho j hj
    exact h out[j] (List.getElem_mem hj) (by rw [← gi_lt hj]; exact (inSet_iff hs this.1 this.2).2 hc)
  · intro h x hx hc
    obtain ⟨j, hj, rfl⟩ := List.getElem_of_mem hx
    have := ho j hj
    rw [← gi_lt hj] at hc
    exact h j hj ((inSet_iff hs this.1 this.2).1 hc)

theorem least1_any (s : Int) (w : World) (a : Addr) (h : w.cell? a = some (.int .i64 s)) : Tells Try.prog w 159 #[.pointer (some a)] (inSet s) := by
  refine ⟨fun xs w' => by kernel_rfl, fun x w' hn => ?_⟩
  have hc := hn.cellNew h
  show Calls Try.prog 159 #[.int .i64 x, .pointer (some a)] w' _
  go_enter Try.func159, Try.ntmps159
  go_wp2_with fail
  go_ret
  exact ⟨ret_bool (by unfold inSet; rw [Bool.eq_iff_iff]; simp), rfl⟩

set_option maxRecDepth 100000 in
set_option maxHeartbeats 2000000 in
theorem least_any (n : Nat) (hn : n ≤ 7) (f : Nat) (caps : Array Value) (H : Nat → Prop) (w : World) (ha : Asks Try.prog w f caps (2 ^ n) H) :
    Calls Try.prog 106 #[.int .i64 n, .func (.func f) #[] caps] w fun e w' => GivesI w e w' (LeastTo (2 ^ n) H ((n + 1) * 2 ^ n)) := by
  have hp := pow_lt hn
  have hp0 : 0 < 2 ^ n := Nat.two_pow_pos _
  have hw12 := wrap_pow n (by omega)
  obtain ⟨N, hNN⟩ : ∃ N, N = 2 ^ n := ⟨_, rfl⟩
  rw [← hNN] at hp hp0 hw12 ha ⊢
  have HNN := Lib.hid hNN
  obtain ⟨hcf, haf⟩ := ha
  have HA := Lib.hid haf
  clear hNN haf
  go_enter Try.func106, Try.ntmps106
  go_wp2_with fail
  go_loopw [5, 11] (fun t i wr => ∃ (a : Nat) (res : List Int), i = .int .i64 a ∧ a ≤ n + 1 ∧ New w wr ∧ Own wr 3 t (res.map (Value.int .i64)) ∧ From w.heap.size t ∧ Hid (LeastTo N H (a * N) res)) (fun _ i _ => n + 1 - (intOf i).toNat)
  case atStart => exact ⟨0, [], rfl, by omega, New.alloc _ _, Own.empty _ _, From.new _ _ _, by show LeastTo N H (0 * N) []; rw [Nat.zero_mul]; rfl⟩
  case round =>
    obtain ⟨a, res, rfl, han, hnew, hown, hfrom, HD⟩ := hrel
    obtain ⟨wo1, hwo1⟩ : ∃ wo1 : World, wo1 = wr := ⟨_, rfl⟩
    rw [← hwo1] at hnew hown
    rw [← hwo1]
    clear hwo1
    have HO := Lib.hid (And.intro hown (And.intro hfrom hnew))
    clear hown hfrom hnew
    by_cases hal : a < n + 1
    · have hdl : decide ((a : Int) < (n : Int) + 1) = true := by simp; omega
      go_wp2_with fail
      clear hdl
      go_loopw [5, 16] (fun t i wr => ∃ (s : Nat) (res : List Int), i = .int .i64 s ∧ s ≤ N ∧ New w wr ∧ Own wr 3 t (res.map (Value.int .i64)) ∧ From w.heap.size t ∧ Hid (LeastTo N H (a * N + s) res)) (fun _ i _ => N - (intOf i).toNat)
      case atStart => exact ⟨0, res, rfl, by omega, HO.out.2.2, HO.out.1, HO.out.2.1, HD.out⟩
      case round =>
        clear HD HO
        clear res
        obtain ⟨s, res, rfl, hs, hnew, hown, hfrom, HD⟩ := hrel
        obtain ⟨wz, hwz⟩ : ∃ wz : World, wz = wr := ⟨_, rfl⟩
        rw [← hwz] at hnew hown
        rw [← hwz]
        clear hwz
        have hbd := HD.out.bounds hp0
        have hrl : res.length ≤ 1200 := by
          have : a * N ≤ 7 * 128 := Nat.mul_le_mul (by omega) (by omega)
          omega
        have hlen : (res.map (Value.int .i64)).length + 1 ≤ 1099511627776 := by rw [List.length_map]; omega
        have hml : Mid res.length := by unfold Mid; omega
        have HBD := Lib.hid hbd
        obtain ⟨a3, l3, c3, rfl, _, _, _⟩ := hown.opened (by unfold Mid; omega)
        by_cases hsN : s < N
        · have hnb : New wz (wz.alloc (.cells #[.int .i64 s] 3)) := New.alloc _ _
          have hbb := Blk1.alloc wz (.int .i64 s) 3
          have HO := Lib.hid (And.intro (hown.new hnb) (And.intro hfrom (And.intro (hnew.trans hnb) hbb)))
          obtain ⟨wb, hwb⟩ : ∃ wb : World, wb = wz.alloc (.cells #[.int .i64 s] 3) := ⟨_, rfl⟩
          rw [← hwb] at HO
          have HWB := Lib.hid hwb
          clear hown hfrom hnew hnb hbb hbd hwb
          go_wp2_with fail
          rw [← HWB.out]
          refine (size_any s _ (by omega)).mono ?_
          rintro e w' ⟨rfl, rfl⟩
          obtain ⟨c0, c1⟩ := HO.out.2.2.2.cells
          have hN0 : 0 < N := hp0
          obtain ⟨c, hc⟩ : ∃ c, c = wtN s 7 := ⟨_, rfl⟩
          rw [← hc]
          have HC := Lib.hid hc
          clear hc
          by_cases hsz : c = a
          · subst hsz
            cases hany : anyB (inSet (s : Int)) res with
            | true =>
              have HANY := Lib.hid hany
              clear hany
              have hin := HO.out.1.isI hml
              have HIN := Lib.hid hin
              clear hin
              go_wp2_with (go_at_call 157; refine (containsFunc_any _ _ _ _ _ _ HIN.out (least1_any _ _ _ c0)).mono ?_; rintro e w' ⟨rfl, rfl⟩; rw [HANY.out])
              go_roundw
              case rel => exact ⟨s + 1, res, by go_num, by omega, HO.out.2.2.1, HO.out.1, HO.out.2.1, HD.out.no hsN (fun h => by
                have := (anyB_inSet (by omega) (fun j hj => ⟨(HBD.out.2 j hj).1, by have := (HBD.out.2 j hj).2; omega⟩)).2 h.2.2
                rw [HANY.out] at this
                cases this)⟩
              case measure => simp [intOf]; omega
            | false =>
              have hns := (anyB_inSet (s := s) (by omega) (fun j hj => ⟨(HBD.out.2 j hj).1, by have := (HBD.out.2 j hj).2; omega⟩)).1 hany
              have HNS := Lib.hid hns
              have HANY := Lib.hid hany
              clear hany hns
              have hin := HO.out.1.isI hml
              have HIN := Lib.hid hin
              clear hin
              go_wp2_with (go_at_call 157; refine (containsFunc_any _ _ _ _ _ _ HIN.out (least1_any _ _ _ c0)).mono ?_; rintro e w' ⟨rfl, rfl⟩; rw [HANY.out])
              refine (HA.out s _ hsN HO.out.2.2.1).mono ?_
              rintro e w5 ⟨⟨b, rfl, hb⟩, hn5⟩
              have HB := Lib.hid hb
              have HO5 := Lib.hid (And.intro (HO.out.1.new hn5) (And.intro HO.out.2.1 (HO.out.2.2.1.trans hn5)))
              obtain ⟨d0, d1⟩ := (HO.out.2.2.2.new hn5).cells
              clear hb hn5 c0 c1
              cases b with
              | true =>
                go_wp2_with (at_builtin; refine wpList_app1 rfl _ _ _ rfl tyInt _ HO5.out.1 rfl _ _ rfl rfl rfl hlen ?_; intro v2 w6 k1 k2 k3; have K2 := Lib.hid (And.intro k1 (And.intro k2 k3)); clear k1 k2 k3)
                go_roundw
                case rel =>
                  obtain ⟨k1, k2, k3⟩ := K2.out
                  exact ⟨s + 1, res ++ [(s : Int)], by go_num, by omega, HO5.out.2.2.then k2 (fun i hi => HO5.out.2.1 i hi), by rw [List.map_append]; exact k1, (fun g hg => by
                    rcases k3 g hg with x | x
                    · exact HO5.out.2.1 g x
                    · exact Nat.le_trans HO5.out.2.2.size x), HD.out.yes hsN HC.out.symm (HB.out.1 (by trivial)) HNS.out⟩
                case measure => simp [intOf]; omega
              | false =>
                go_wp2_with fail
                go_roundw
                case rel => exact ⟨s + 1, res, by go_num, by omega, HO5.out.2.2, HO5.out.1, HO5.out.2.1, HD.out.no hsN (fun h => by have := HB.out.2 h.2.1; cases this)⟩
                case measure => simp [intOf]; omega
          · have hd : ((c : Int) == (a : Int)) = false := by simp; omega
            have HSZ := Lib.hid hsz
            clear hsz
            go_wp2_with fail
            go_roundw
            case rel => exact ⟨s + 1, res, by go_num, by omega, HO.out.2.2.1, HO.out.1, HO.out.2.1, HD.out.no hsN (fun h => HSZ.out (by rw [HC.out]; exact h.1))⟩
            case measure => simp [intOf]; omega
        · obtain rfl : s = N := by omega
          clear hbd
          go_wp2_with fail
          go_roundw
          case rel => exact ⟨a + 1, res, by go_num, by omega, hnew, hown, hfrom, by have := HD.out.turn; rw [Nat.add_zero] at this; exact this⟩
          case measure => simp [intOf]; omega
    · obtain rfl : a = n + 1 := by omega
      have hbd := HD.out.bounds hp0
      have hlm : Mid (res.map (Value.int .i64)).length := by
        have : (n + 1) * N ≤ 8 * 128 := Nat.mul_le_mul (by omega) (by omega)
        rw [List.length_map]; unfold Mid; omega
      clear hbd
      go_wp2_with fail
      refine (clip_any _ _ _ HO.out.1 hlm).mono ?_
      rintro e w' ⟨u6, rfl, ho, hub, rfl⟩
      have HU := Lib.hid (And.intro ho hub)
      clear ho hub
      go_wp2_with fail
      go_ret
      exact ⟨u6, res, rfl, HU.out.1, (fun g hg => HO.out.2.1 g (by rw [← HU.out.2]; exact hg)), HD.out, HO.out.2.2⟩
end Go.Proofs.Ytmehgchmnnbkfaa

namespace Go.Proofs.Ytmehgchmnnbkfaa
open Go.RowKit Mat
set_option linter.unusedVariables false

/-- How many are not 0. -/
def hvTo (xs : List Int) : Nat → Nat
  | 0 => 0
  | k + 1 => if gi xs k = 0 then hvTo xs k else hvTo xs k + 1
theorem hvTo_le (xs : List Int) : ∀ k, hvTo xs k ≤ k
  | 0 => Nat.le_refl _
  | k + 1 => by have := hvTo_le xs k; unfold hvTo; split <;> omega
theorem hvTo_zero (xs : List Int) : ∀ k, hvTo xs k = 0 ↔ ∀ r, r < k → gi xs r = 0
  | 0 => ⟨fun _ r hr => by omega, fun _ => rfl⟩
  | k + 1 => by
    have ih := hvTo_zero xs k
    unfold hvTo
    split
    · rename_i h
      rw [ih]
      exact ⟨fun h2 r hr => (if e : r = k then by rw [e]; exact h else h2 r (by omega)), fun h2 r hr => h2 r (by omega)⟩
    · rename_i h
      exact ⟨fun h2 => by omega, fun h2 => absurd (h2 k (by omega)) h⟩

theorem heavy_any (v : Value) (xs : List Int) (w : World) (hx : IsI w v xs) (hl : xs.length ≤ 1000) :
    Calls Try.prog 149 #[v] w fun e w' => e = .returned (.int .i64 (hvTo xs xs.length)) ∧ w = w' := by
  obtain ⟨ao, n, cap, rfl, HN, hn⟩ := hx.shape
  have hn1 : n ≤ 1000 := by rw [HN.out]; exact hl
  have HX := Lib.hid hx
  clear hx
  go_enter Try.func149, Try.ntmps149
  go_wp2_with fail
  go_loop [3, 4] (fun t i => ∃ k c : Nat, t = .int .i64 c ∧ i = .int .i64 k ∧ k ≤ n ∧ c ≤ k ∧ Hid (c = hvTo xs k)) (fun _ i => n - (intOf i).toNat)
  case atStart => exact ⟨0, 0, rfl, rfl, Nat.zero_le _, Nat.le_refl _, rfl⟩
  case round =>
    obtain ⟨k, c, rfl, rfl, hk, hck, HC⟩ := hrel
    by_cases hkn : k < n
    · obtain ⟨b, o, rfl, ck⟩ := HX.out.at hkn
      obtain ⟨x, hx⟩ : ∃ x, x = gi xs k := ⟨_, rfl⟩
      rw [← hx] at ck
      have HXX := Lib.hid hx
      clear hx
      by_cases h0 : x = 0
      · subst h0
        go_wp2_with fail
        go_round
        case rel => exact ⟨k + 1, c, by go_num, by go_num, by omega, by omega, by show c = _; rw [HC.out, hvTo, if_pos HXX.out.symm]⟩
        case measure => simp [intOf]; omega
      · have hd2 : (x != 0) = true := by simp; exact h0
        have HS : Hid (c + 1 = hvTo xs (k + 1)) := by show c + 1 = _; rw [HC.out, hvTo, if_neg (by rw [← HXX.out]; exact h0)]
        go_wp2_with fail
        go_round
        case rel => exact ⟨k + 1, c + 1, by go_num, by go_num, by omega, by omega, HS⟩
        case measure => simp [intOf]; omega
    · obtain rfl : k = n := by omega
      go_wp2_with fail
      go_ret
      exact ⟨ret_int (by rw [HC.out, HN.out]), rfl⟩

set_option maxRecDepth 100000 in
set_option maxHeartbeats 4000000 in
theorem specHelps_any (q : Nat) [NeZero q] (n i s : Nat) (v : Value) (rows : List (List Int)) (w : World) (hr : IsR w v rows) (ht : TabOk q n rows) (hi : i < n) (hs : s < 2 ^ n) (hbi : bitN s i = 0) :
    Calls Try.prog 172 #[.agg #[.int .i64 q, v], .int .i64 i, .int .i64 s] w fun e w' => TellsB w e w' (HelpC q rows n s i) := by
  obtain ⟨ao, m, cap, rfl, HN, hm⟩ := hr.shape
  have hm6 : m ≤ 6 := by rw [HN.out]; exact ht.r6
  have hm1 : 0 < m := by rw [HN.out]; exact ht.r1
  have hn7 := ht.n7
  have hs128 : s < 128 := by have := pow_lt hn7; omega
  have hw6 := wt_less n (by omega) s hs128 i hi hbi
  have h1 : New w (w.alloc (.cells #[.int .i64 q, .slice ao m cap] 25)) := New.alloc _ _
  have b1 := Blk2.alloc w (.int .i64 q) (.slice ao m cap) 25
  have HR := Lib.hid hr
  have HT := Lib.hid ht
  clear hr ht hs hbi
  go_enter Try.func172, Try.ntmps172
  go_wp2_with fail
  obtain ⟨wA, hwA⟩ : ∃ wA : World, wA = ((w.alloc (.cells #[.int .i64 q, .slice ao m cap] 25)).alloc (.cells #[] 3)).alloc (.cells #[] 31) := ⟨_, rfl⟩
  rw [← hwA]
  have hbA : Blk2 wA w.heap.size (.int .i64 q) (.slice ao m cap) 25 := by rw [hwA]; exact (b1.new (New.alloc _ _)).new (New.alloc _ _)
  have hnA : New w wA := by rw [hwA]; exact (h1.trans (New.alloc _ _)).trans (New.alloc _ _)
  have hgA : Own wA 3 (.slice (some ⟨w.heap.size + 1, 0, none⟩) 0 0) (([] : List Int).map (Value.int .i64)) := by
    rw [hwA]
    have := Own.empty (w.alloc (.cells #[.int .i64 q, .slice ao m cap] 25)) 3
    rw [World.size_alloc] at this
    exact this.new (New.alloc _ _)
  have hcA : Own wA 31 (.slice (some ⟨w.heap.size + 1 + 1, 0, none⟩) 0 0) [] := by
    rw [hwA]
    have := Own.empty ((w.alloc (.cells #[.int .i64 q, .slice ao m cap] 25)).alloc (.cells #[] 3)) 31
    rw [World.size_alloc, World.size_alloc] at this
    exact this
  have hszA : wA.heap.size = w.heap.size + 1 + 1 + 1 := by rw [hwA]; simp
  have HA := Lib.hid (And.intro hbA (And.intro hnA (And.intro hgA (And.intro hcA hszA))))
  clear hwA hbA hnA hgA hcA hszA h1 b1
  go_loopw [7, 9] (fun t x9 wr => ∃ k : Nat, x9 = .int .i64 k ∧ k ≤ m ∧ Hid (Own wr 3 t ((tab k (fun r => gi (gr rows r) i)).map (Value.int .i64)) ∧ Chg (· = w.heap.size + 1) wA wr ∧ ∀ g, t.ownBlock = some g → g = w.heap.size + 1 ∨ wA.heap.size ≤ g)) (fun _ x9 _ => m - (intOf x9).toNat)
  case atStart => exact ⟨0, rfl, Nat.zero_le _, HA.out.2.2.1, Chg.refl _ _, fun g hg => by simp [Value.ownBlock] at hg; omega⟩
  case round =>
    obtain ⟨k, rfl, hk, HL⟩ := hrel
    obtain ⟨wo, hwo⟩ : ∃ wo : World, wo = wr := ⟨_, rfl⟩
    rw [← hwo] at HL
    rw [← hwo]
    clear hwo
    have hnr : New w wo := HA.out.2.1.then HL.out.2.1 (fun g hg => by omega)
    have hbr := HA.out.1.chg HL.out.2.1 (by omega)
    obtain ⟨c0, c1, _, _⟩ := hbr.cells
    have htl : ((tab k (fun r => gi (gr rows r) i)).map (Value.int .i64)).length ≤ 6 := by rw [List.length_map, tab_length]; omega
    have htl' : ((tab k (fun r => gi (gr rows r) i)).map (Value.int .i64)).length + 1 ≤ 1099511627776 := by omega
    obtain ⟨a7, l7, c7, rfl, _, _, _⟩ := HL.out.1.opened (by unfold Mid; omega)
    by_cases hkm : k < m
    · have hkr : k < rows.length := by rw [← HN.out]; exact hkm
      obtain ⟨b, o, u, rfl, ck, hu⟩ := (HR.out.new hnr).at hkm
      obtain ⟨au, nu, cu, rfl, HNU, hnu⟩ := hu.shape
      have hin : i < nu := by rw [HNU.out, (HT.out.good k hkr).1]; exact hi
      obtain ⟨bx, ox, rfl, cx⟩ := hu.at hin
      obtain ⟨x, hx⟩ : ∃ x, x = gi (gr rows k) i := ⟨_, rfl⟩
      rw [← hx] at cx
      have HX := Lib.hid hx
      have HNR := Lib.hid (And.intro hnr hbr)
      clear hx hu hnr hbr
      go_wp2_with (at_builtin; refine wpList_app1 rfl _ _ _ rfl tyInt _ HL.out.1 rfl _ _ rfl rfl rfl htl' ?_; intro v2 w6 k1 k2 k3; have K2 := Lib.hid (And.intro k1 (And.intro k2 k3)); clear k1 k2 k3)
      go_roundw
      case rel =>
        obtain ⟨k1, k2, k3⟩ := K2.out
        refine ⟨k + 1, by go_num, by omega, by rw [tab_succ, List.map_append]; rw [HX.out] at k1; exact k1, ?_, fun g hg => ?_⟩
        · exact Chg.trans HL.out.2.1 k2 (fun _ _ x => x) (fun g hgl hg => by have := HL.out.2.2 g hg; omega)
        · have := HL.out.2.1.size
          rcases k3 g hg with h | h
          · exact HL.out.2.2 g h
          · exact .inr (by omega)
      case measure => simp [intOf]; omega
    · obtain rfl : k = m := by omega
      have hgo : Own wo 3 (.slice a7 l7 c7) ((colN rows i).map (Value.int .i64)) := by have h := HL.out.1; rw [HN.out] at h; exact h
      have hco : Own wo 31 (.slice (some ⟨w.heap.size + 1 + 1, 0, none⟩) 0 0) [] := HA.out.2.2.2.1.chg HL.out.2.1 (fun g hg => by simp [Value.ownBlock] at hg; omega)
      have hgb : ∀ g, (Value.slice a7 l7 c7).ownBlock = some g → g ≠ w.heap.size ∧ g ≠ w.heap.size + 1 + 1 := fun g hg => by have := HL.out.2.2 g hg; have := HA.out.2.2.2.2; omega
      have hsz : w.heap.size + 1 + 1 + 1 ≤ wo.heap.size := by have := HL.out.2.1.size; have := HA.out.2.2.2.2; omega
      have H1 := Lib.hid (And.intro hnr (And.intro hbr (And.intro hgo (And.intro hco (And.intro hgb hsz)))))
      have hcl : (colN rows i).length = k := by rw [HN.out]; exact tab_length _ _
      have HCL := Lib.hid hcl
      clear hnr hbr hgo hco hgb hsz hcl HL htl htl'
      go_wp2_with fail
      go_loopw [8, 10] (fun t x10 wr => ∃ (j : Nat) (vs : List Value), x10 = .int .i64 j ∧ j ≤ n ∧ Hid (OwnR wr 31 3 t vs (colsTo rows s j) ∧ FromR (w.heap.size + 1 + 1) t vs (colsTo rows s j) ∧ Chg (· = w.heap.size + 1 + 1) wo wr ∧ ∀ g, t.ownBlock = some g → g = w.heap.size + 1 + 1 ∨ wo.heap.size ≤ g)) (fun _ x10 _ => n - (intOf x10).toNat)
      case atStart =>
        exact ⟨0, [], rfl, Nat.zero_le _, ⟨H1.out.2.2.2.1, rfl, fun i hi => by simp [colsTo] at hi, fun i j hi => by simp [colsTo] at hi⟩, ⟨fun g hg => by simp [Value.ownBlock] at hg; omega, fun i hi => by simp [colsTo] at hi⟩, Chg.refl _ _, fun g hg => by simp [Value.ownBlock] at hg; omega⟩
      case round =>
        obtain ⟨j, vs, rfl, hj, HL⟩ := hrel
        obtain ⟨wp, hwp⟩ : ∃ wp : World, wp = wr := ⟨_, rfl⟩
        rw [← hwp] at HL
        rw [← hwp]
        clear hwp
        have hnr : New w wp := H1.out.1.then HL.out.2.2.1 (fun g hg => by omega)
        have hbr := H1.out.2.1.chg HL.out.2.2.1 (by omega)
        have hgr := H1.out.2.2.1.chg HL.out.2.2.1 (fun g hg => (H1.out.2.2.2.2.1 g hg).2)
        obtain ⟨c0, c1, _, _⟩ := hbr.cells
        have hb0 : w.heap.size < wp.heap.size := by have := H1.out.2.2.2.2.2; have := HL.out.2.2.1.size; omega
        have hcl7 : (colsTo rows s j).length ≤ 7 := by rw [colsTo_length]; have := wtN_le s j; omega
        have hvl : vs.length ≤ 7 := by rw [HL.out.1.len]; exact hcl7
        have hvl' : vs.length + 1 ≤ 1099511627776 := by omega
        obtain ⟨a8, l8, c8, rfl, HL8, _, _⟩ := HL.out.1.outer.opened (by unfold Mid; omega)
        obtain ⟨b, o, u0, rfl, ck0, hu0⟩ := (HR.out.new hnr).at hm1
        rw [Nat.add_zero] at ck0
        obtain ⟨au0, n0, cu0, rfl, HN0, hnu0⟩ := hu0.shape
        have hn0 : n = n0 := by rw [HN0.out, HT.out.cols]
        subst hn0
        have HP := Lib.hid (And.intro hnr (And.intro hbr hgr))
        clear hnr hbr hgr hu0
        by_cases hjn : j < n
        · rcases (show bitN s j = 0 ∨ bitN s j = 1 by unfold bitN; omega) with hb | hb
          · have HB := Lib.hid hb
            clear hb
            go_wp2_with (go_at_call 124; refine (bit_any _ _ _ (by omega) (by omega)).mono ?_; rintro e w' ⟨rfl, rfl⟩; rw [HB.out])
            go_roundw
            case rel => exact ⟨j + 1, vs, by go_num, by omega, by rw [colsTo, if_neg (by rw [HB.out]; omega)]; exact HL.out⟩
            case measure => simp [intOf]; omega
          · have HB := Lib.hid hb
            clear hb
            go_wp2_with (go_at_call 124; refine (bit_any _ _ _ (by omega) (by omega)).mono ?_; rintro e w' ⟨rfl, rfl⟩; rw [HB.out])
            go_loopw [11, 12] (fun t x12 wr => ∃ r : Nat, x12 = .int .i64 r ∧ r ≤ k ∧ Hid (Own wr 3 t ((tab r (fun z => gi (gr rows z) j)).map (Value.int .i64)) ∧ From wp.heap.size t ∧ New wp wr)) (fun _ x12 _ => k - (intOf x12).toNat)
            case atStart => exact ⟨0, rfl, Nat.zero_le _, Own.empty _ _, From.new _ _ _, New.alloc _ _⟩
            case round =>
              obtain ⟨r, rfl, hr, HQ⟩ := hrel
              obtain ⟨wq, hwq⟩ : ∃ wq : World, wq = wr := ⟨_, rfl⟩
              rw [← hwq] at HQ
              rw [← hwq]
              clear hwq
              have hrl : ((tab r (fun z => gi (gr rows z) j)).map (Value.int .i64)).length ≤ 6 := by rw [List.length_map, tab_length]; omega
              have hrl' : ((tab r (fun z => gi (gr rows z) j)).map (Value.int .i64)).length + 1 ≤ 1099511627776 := by omega
              obtain ⟨a9, l9, c9, rfl, _, _, _⟩ := HQ.out.1.opened (by unfold Mid; omega)
              obtain ⟨d0, d1, _, _⟩ := (HP.out.2.1.new HQ.out.2.2).cells
              have hckq := HQ.out.2.2.cellNew ck0
              by_cases hrk : r < k
              · have hrr : r < rows.length := by rw [← HN.out]; exact hrk
                obtain ⟨b', o', u, hbe, ck, hu⟩ := (HR.out.new (HP.out.1.trans HQ.out.2.2)).at hrk
                obtain ⟨rfl, rfl⟩ : b = b' ∧ o = o' := by simpa using hbe
                obtain ⟨au, nu, cu, rfl, HNU, hnu⟩ := hu.shape
                have hin : j < nu := by rw [HNU.out, (HT.out.good r hrr).1]; exact hjn
                obtain ⟨bx, ox, rfl, cx⟩ := hu.at hin
                obtain ⟨x, hx⟩ : ∃ x, x = gi (gr rows r) j := ⟨_, rfl⟩
                rw [← hx] at cx
                have HX := Lib.hid hx
                clear hx hu hbe c0 c1 ck0
                go_wp2_with (at_builtin; refine wpList_app1 rfl _ _ _ rfl tyInt _ HQ.out.1 rfl _ _ rfl rfl rfl hrl' ?_; intro v2 w6 k1 k2 k3; have K2 := Lib.hid (And.intro k1 (And.intro k2 k3)); clear k1 k2 k3)
                go_roundw
                case rel =>
                  obtain ⟨k1, k2, k3⟩ := K2.out
                  exact ⟨r + 1, by go_num, by omega, by rw [tab_succ, List.map_append]; rw [HX.out] at k1; exact k1, (fun g hg => by
                    rcases k3 g hg with x | x
                    · exact HQ.out.2.1 g x
                    · exact Nat.le_trans HQ.out.2.2.size x), HQ.out.2.2.then k2 (fun i hi => HQ.out.2.1 i hi)⟩
                case measure => simp [intOf]; omega
              · obtain rfl : r = k := by omega
                clear c0 c1 ck0
                go_wp2_with (at_builtin; refine wpList_app1 rfl _ _ _ rfl tyRow _ (HL.out.1.outer.new HQ.out.2.2) rfl _ _ rfl rfl rfl hvl' ?_; intro v2 w6 k1 k2 k3; have K2 := Lib.hid (And.intro k1 (And.intro k2 k3)); clear k1 k2 k3)
                go_roundw
                case rel =>
                  obtain ⟨m1, m2, m3⟩ := K2.out
                  have hk1 : Own wq 3 (.slice a9 l9 c9) ((colN rows j).map (Value.int .i64)) := by have h := HQ.out.1; rw [HN.out] at h; exact h
                  have hsz : w.heap.size + 1 + 1 ≤ wp.heap.size := by have := H1.out.2.2.2.2.2; have := HL.out.2.2.1.size; omega
                  obtain ⟨p1, p2, p3⟩ := OwnR.push HL.out.1 HL.out.2.1 hsz HQ.out.2.2 hk1 HQ.out.2.1 m1 m2 m3
                  refine ⟨j + 1, vs ++ [Value.slice a9 l9 c9], by go_num, by omega, ?_, ?_, ?_, fun g hg => ?_⟩
                  · rw [colsTo, if_pos HB.out]; exact p1
                  · rw [colsTo, if_pos HB.out]; exact p2
                  · exact Chg.trans HL.out.2.2.1 p3 (fun _ _ x => x) (fun g hgl hg => by have := HL.out.2.2.2 g hg; omega)
                  · have h1 := HL.out.2.2.1.size
                    have h2 := HQ.out.2.2.size
                    rcases m3 g hg with h | h
                    · exact HL.out.2.2.2 g h
                    · exact .inr (by omega)
                case measure => simp [intOf]; omega
        · obtain rfl : j = n := by omega
          have hgi := HP.out.2.2.isI (by rw [HCL.out]; unfold Mid; omega)
          have hri := HL.out.1.isR (by unfold Mid; omega) (fun t ht => by rw [(cols_good HT.out.good j (Nat.le_refl _) t ht).1]; rw [← HN.out]; unfold Mid; omega)
          have HI := Lib.hid (And.intro hgi hri)
          have hl8w : l8 = wtN s j := by rw [HL8.out, HL.out.1.len, colsTo_length]
          have HLW := Lib.hid hl8w
          clear hgi hri hl8w
          by_cases hl0 : l8 = 0
          · subst hl0
            have HH := Lib.hid (help_none (i := i) HT.out.good hi HLW.out.symm)
            go_wp2_with fail
            refine (heavy_any _ _ _ HI.out.1 (by rw [HCL.out]; omega)).mono ?_
            rintro e w' ⟨rfl, rfl⟩
            obtain ⟨c, hc⟩ : ∃ c, c = hvTo (colN rows i) (colN rows i).length := ⟨_, rfl⟩
            rw [← hc]
            have HC := Lib.hid hc
            clear hc
            go_wp2_with fail
            go_ret
            refine ⟨_, rfl, ?_, HP.out.1⟩
            rw [HH.out, ← hvTo_zero, ← HC.out]
            simp
          · have hd : ((l8 : Int) == 0) = false := by simp; omega
            go_wp2_with fail
            refine (specSolve_any q HT.out.pr k _ _ (colsTo rows s j) (colN rows i) _ HI.out.2 HI.out.1 (by have h := cols_good (s := s) HT.out.good j (Nat.le_refl _); rw [← HN.out] at h; exact h) (by have h := colN_good HT.out.good hi; rw [← HN.out] at h; exact h) (by rw [colsTo_length]; exact hw6) (by omega) (by omega)).mono ?_
            rintro e w5 ⟨u, out, ok, rfl, ho, hf, hb, hn5⟩
            have HE := Lib.hid (And.intro hb.help hn5)
            clear ho hf hb hn5
            go_wp2_with fail
            go_ret
            exact ⟨ok, rfl, HE.out.1, HP.out.1.trans HE.out.2⟩
end Go.Proofs.Ytmehgchmnnbkfaa

namespace Go.Proofs.Ytmehgchmnnbkfaa
open Go.RowKit Mat
set_option linter.unusedVariables false

set_option maxRecDepth 100000 in
set_option maxHeartbeats 2000000 in
theorem helps1_any (q : Nat) [NeZero q] (n i g1 g2 g3 : Nat) (v : Value) (rows : List (List Int)) (w : World) (hr : IsR w v rows) (ht : TabOk q n rows) (hi : i < n) (hbi : Blk1 w g1 (.int .i64 i) 3) (hbf : Blk1 w g2 (.int .i64 q) 64) (hbc : Blk2 w g3 (.int .i64 q) v 25) :
    Asks Try.prog w 151 #[.pointer (some ⟨g1, 0, none⟩), .pointer (some ⟨g2, 0, none⟩), .pointer (some ⟨g3, 0, none⟩)] (2 ^ n) (HelpQ q rows n i) := by
  refine ⟨fun xs w' => by kernel_rfl, fun s w' hs hn => ?_⟩
  show Calls Try.prog 151 #[.int .i64 s, .pointer (some ⟨g1, 0, none⟩), .pointer (some ⟨g2, 0, none⟩), .pointer (some ⟨g3, 0, none⟩)] w' _
  obtain ⟨ao, m, cap, rfl, HN, hm⟩ := hr.shape
  have hn7 := ht.n7
  have hs128 : s < 128 := by have := pow_lt hn7; omega
  have hbit := bits_bit s hs128 i (by omega)
  have hbi' := hbi.new hn
  have hbf' := hbf.new hn
  have hbc' := hbc.new hn
  have HR := Lib.hid (hr.new hn)
  have HT := Lib.hid ht
  obtain ⟨ci, _⟩ := hbi'.cells
  obtain ⟨cf, _⟩ := hbf'.cells
  obtain ⟨c0, c1, _, _⟩ := hbc'.cells
  clear hr ht hs hbi hbf hbc
  go_enter Try.func151, Try.ntmps151
  go_wp2_with fail
  rcases (show bitN s i = 0 ∨ bitN s i = 1 by unfold bitN; omega) with hb | hb
  · rw [hb] at hbit
    have HB := Lib.hid hb
    have hwp := wrap_pow i (by omega)
    have hp7 := pow_lt (n := i) (by omega)
    have hos := or_small s hs128 i (by omega)
    have hor := or_i64 s hs128 (2 ^ i) (by have : 2 ^ i < 2 ^ 7 := Nat.pow_lt_pow_right (by omega) (by omega); omega)
    obtain ⟨P, hP⟩ : ∃ P, P = 2 ^ i := ⟨_, rfl⟩
    obtain ⟨T, hT⟩ : ∃ T, T = s ||| P := ⟨_, rfl⟩
    rw [← hP] at hwp hp7 hos hor
    rw [← hT] at hos hor
    have HPT := Lib.hid (And.intro hP hT)
    clear hP hT hb
    refine wp_region_held_drew (S := fun w'' => New w' w'') (by kernel_rfl) (New.drew _) (fun hHeld => ?_)
    refine held_take 0 (some 6) rfl rfl (by kernel_rfl) (by kernel_rfl) (by kernel_rfl) (fun _ _ _ h => h) rfl hHeld (v := ?_) (fun w' hS => by skip; go_simp; try with_reducible rfl) ?_
    simp only [Act.put, List.setIfInBounds_toArray, List.set_cons_zero, List.set_cons_succ]
    refine held_take 1 (some 7) rfl rfl (by kernel_rfl) (by kernel_rfl) (by kernel_rfl) (fun _ _ _ h => h) rfl hHeld (v := .int .i64 i) (fun w' hS => by obtain ⟨ci, _⟩ := (hbi'.new hS).cells; obtain ⟨cf, _⟩ := (hbf'.new hS).cells; obtain ⟨c0, c1, _, _⟩ := (hbc'.new hS).cells; go_simp; try with_reducible rfl) ?_
    simp only [Act.put, List.setIfInBounds_toArray, List.set_cons_zero, List.set_cons_succ]
    refine held_take 2 (some 8) rfl rfl (by kernel_rfl) (by kernel_rfl) (by kernel_rfl) (fun _ _ _ h => h) rfl hHeld (v := ?_) (fun w' hS => by skip; go_simp; try with_reducible rfl) ?_
    simp only [Act.put, List.setIfInBounds_toArray, List.set_cons_zero, List.set_cons_succ]
    refine held_take 3 (some 9) rfl rfl (by kernel_rfl) (by kernel_rfl) (by kernel_rfl) (fun _ _ _ h => h) rfl hHeld (v := .int .i64 0) (fun w' hS => by skip; go_simp; try omega) ?_
    simp only [Act.put, List.setIfInBounds_toArray, List.set_cons_zero, List.set_cons_succ]
    refine held_take 4 (some 10) rfl rfl (by kernel_rfl) (by kernel_rfl) (by kernel_rfl) (fun _ _ _ h => h) rfl hHeld (v := .bool true) (fun w' hS => by skip; go_simp; try with_reducible rfl) ?_
    simp only [Act.put, List.setIfInBounds_toArray, List.set_cons_zero, List.set_cons_succ]
    refine held_take 5 (some 11) rfl rfl (by kernel_rfl) (by kernel_rfl) (by kernel_rfl) (fun _ _ _ h => h) rfl hHeld (v := ?_) (fun w' hS => by skip; go_simp; try with_reducible rfl) ?_
    simp only [Act.put, List.setIfInBounds_toArray, List.set_cons_zero, List.set_cons_succ]
    refine held_take 6 (some 12) rfl rfl (by kernel_rfl) (by kernel_rfl) (by kernel_rfl) (fun _ _ _ h => h) rfl hHeld (v := .int .i64 q) (fun w' hS => by obtain ⟨ci, _⟩ := (hbi'.new hS).cells; obtain ⟨cf, _⟩ := (hbf'.new hS).cells; obtain ⟨c0, c1, _, _⟩ := (hbc'.new hS).cells; go_simp; try with_reducible rfl) ?_
    simp only [Act.put, List.setIfInBounds_toArray, List.set_cons_zero, List.set_cons_succ]
    refine held_take 7 (some 13) rfl rfl (by kernel_rfl) (by kernel_rfl) (by kernel_rfl) (fun _ _ _ h => h) rfl hHeld (v := ?_) (fun w' hS => by skip; go_simp; try with_reducible rfl) ?_
    simp only [Act.put, List.setIfInBounds_toArray, List.set_cons_zero, List.set_cons_succ]
    refine held_take 8 (some 14) rfl rfl (by kernel_rfl) (by kernel_rfl) (by kernel_rfl) (fun _ _ _ h => h) rfl hHeld (v := .slice ao m cap) (fun w' hS => by obtain ⟨ci, _⟩ := (hbi'.new hS).cells; obtain ⟨cf, _⟩ := (hbf'.new hS).cells; obtain ⟨c0, c1, _, _⟩ := (hbc'.new hS).cells; go_simp; try with_reducible rfl) ?_
    simp only [Act.put, List.setIfInBounds_toArray, List.set_cons_zero, List.set_cons_succ]
    refine held_take 9 (some 15) rfl rfl (by kernel_rfl) (by kernel_rfl) (by kernel_rfl) (fun _ _ _ h => h) rfl hHeld (v := ?_) (fun w' hS => by skip; go_simp; try with_reducible rfl) ?_
    simp only [Act.put, List.setIfInBounds_toArray, List.set_cons_zero, List.set_cons_succ]
    refine held_take 11 (some 17) rfl rfl (by kernel_rfl) (by kernel_rfl) (by kernel_rfl) (fun _ _ _ h => h) rfl hHeld (v := .int .i64 q) (fun w' hS => by obtain ⟨ci, _⟩ := (hbi'.new hS).cells; obtain ⟨cf, _⟩ := (hbf'.new hS).cells; obtain ⟨c0, c1, _, _⟩ := (hbc'.new hS).cells; go_simp; try with_reducible rfl) ?_
    simp only [Act.put, List.setIfInBounds_toArray, List.set_cons_zero, List.set_cons_succ]
    refine held_take 12 (some 18) rfl rfl (by kernel_rfl) (by kernel_rfl) (by kernel_rfl) (fun _ _ _ h => h) rfl hHeld (v := ?_) (fun w' hS => by skip; go_simp; try with_reducible rfl) ?_
    simp only [Act.put, List.setIfInBounds_toArray, List.set_cons_zero, List.set_cons_succ]
    refine held_take 13 (some 19) rfl rfl (by kernel_rfl) (by kernel_rfl) (by kernel_rfl) (fun _ _ _ h => h) rfl hHeld (v := .slice ao m cap) (fun w' hS => by obtain ⟨ci, _⟩ := (hbi'.new hS).cells; obtain ⟨cf, _⟩ := (hbf'.new hS).cells; obtain ⟨c0, c1, _, _⟩ := (hbc'.new hS).cells; go_simp; try with_reducible rfl) ?_
    simp only [Act.put, List.setIfInBounds_toArray, List.set_cons_zero, List.set_cons_succ]
    refine held_take 14 (some 20) rfl rfl (by kernel_rfl) (by kernel_rfl) (by kernel_rfl) (fun _ _ _ h => h) rfl hHeld (v := ?_) (fun w' hS => by skip; go_simp; try with_reducible rfl) ?_
    simp only [Act.put, List.setIfInBounds_toArray, List.set_cons_zero, List.set_cons_succ]
    refine held_take 15 (some 21) rfl rfl (by kernel_rfl) (by kernel_rfl) (by kernel_rfl) (fun _ _ _ h => h) rfl hHeld (v := .int .i64 i) (fun w' hS => by obtain ⟨ci, _⟩ := (hbi'.new hS).cells; obtain ⟨cf, _⟩ := (hbf'.new hS).cells; obtain ⟨c0, c1, _, _⟩ := (hbc'.new hS).cells; go_simp; try with_reducible rfl) ?_
    simp only [Act.put, List.setIfInBounds_toArray, List.set_cons_zero, List.set_cons_succ]
    refine held_take 16 (some 22) rfl rfl (by kernel_rfl) (by kernel_rfl) (by kernel_rfl) (fun _ _ _ h => h) rfl hHeld (v := .int .i64 P) (fun w' hS => by skip; go_simp; try with_reducible rfl) ?_
    simp only [Act.put, List.setIfInBounds_toArray, List.set_cons_zero, List.set_cons_succ]
    refine held_take 17 (some 23) rfl rfl (by kernel_rfl) (by kernel_rfl) (by kernel_rfl) (fun _ _ _ h => h) rfl hHeld (v := .int .i64 T) (fun w' hS => by skip; go_simp; try with_reducible rfl) ?_
    simp only [Act.put, List.setIfInBounds_toArray, List.set_cons_zero, List.set_cons_succ]
    refine held_only 10 (by kernel_rfl) rfl rfl (fun K hK => ?_)
    go_simp
    refine (rank_any q n _ rows s _ hs128 (HR.out.new (New.drew _)) HT.out).mono ?_
    rintro e w2 ⟨r1, rfl, hr1, hr7, hn2⟩
    have HR1 := Lib.hid hr1
    refine hK.out _ _ (hHeld.trans hn2) (fun hHeld2 => ?_)
    clear hK K hn2 hHeld hr1
    refine held_only 18 (by kernel_rfl) rfl rfl (fun K hK => ?_)
    go_simp
    refine (rank_any q n _ rows T _ hos (HR.out.new hHeld2) HT.out).mono ?_
    rintro e w3 ⟨r2, rfl, hr2, hr7', hn3⟩
    have HR2 := Lib.hid hr2
    refine hK.out _ _ (hHeld2.trans hn3) (fun hHeld3 => ?_)
    clear hK K hn3 hHeld2 hr2
    refine held_take 19 (some 25) rfl rfl (by kernel_rfl) (by kernel_rfl) (by kernel_rfl) (fun _ _ _ h => h) rfl hHeld3 (v := ?_) (fun w' hS => by skip; go_simp; try with_reducible rfl) ?_
    simp only [Act.put, List.setIfInBounds_toArray, List.set_cons_zero, List.set_cons_succ]
    refine held_take 20 (some 26) rfl rfl (by kernel_rfl) (by kernel_rfl) (by kernel_rfl) (fun _ _ _ h => h) rfl hHeld3 (v := ?_) (fun w' hS => by skip; go_simp; try with_reducible rfl) ?_
    simp only [Act.put, List.setIfInBounds_toArray, List.set_cons_zero, List.set_cons_succ]
    refine held_take 21 (some 5) rfl rfl (by kernel_rfl) (by kernel_rfl) (by kernel_rfl) (fun _ _ _ h => h) rfl hHeld3 (v := ?_) (fun w' hS => by skip; go_simp; try with_reducible rfl) ?_
    simp only [Act.put, List.setIfInBounds_toArray, List.set_cons_zero, List.set_cons_succ]
    refine wpAnyH_done (by kernel_rfl) ?_ _
    go_wp2_with fail
    go_ret
    refine ⟨⟨_, rfl, ?_⟩, hHeld3⟩
    have hk := rank_help HT.out.pr HT.out.good HT.out.cols hn7 hs128 hi HB.out HR1.out (by have h := HR2.out; rw [HPT.out.2, HPT.out.1] at h; exact h)
    unfold HelpQ
    rw [beq_iff_eq, ← hk]
    constructor
    · intro e; exact ⟨HB.out, by omega⟩
    · intro e; have := e.2; omega
  · rw [hb] at hbit
    have HB := Lib.hid hb
    clear hb
    go_quiet (fail)
    go_wp2_with fail
    go_ret
    refine ⟨⟨false, rfl, ⟨(fun h => by cases h), fun h => by have := h.1; rw [HB.out] at this; omega⟩⟩, New.drewN _ _⟩
end Go.Proofs.Ytmehgchmnnbkfaa

namespace Go.Proofs.Ytmehgchmnnbkfaa
open Go.RowKit Mat
set_option linter.unusedVariables false

set_option maxRecDepth 100000 in
set_option maxHeartbeats 1000000 in
theorem implHelpers_any (q : Nat) [NeZero q] (n i : Nat) (v : Value) (rows : List (List Int)) (w : World) (hr : IsR w v rows) (ht : TabOk q n rows) (hi : i < n) :
    Calls Try.prog 86 #[.agg #[.int .i64 q, v], .int .i64 q, .int .i64 i] w fun e w' => GivesI w e w' (LeastTo (2 ^ n) (HelpQ q rows n i) ((n + 1) * 2 ^ n)) := by
  obtain ⟨ao, m, cap, rfl, HN, hm⟩ := hr.shape
  have hn7 := ht.n7
  obtain ⟨wA, hwA⟩ : ∃ wA : World, wA = ((w.alloc (.cells #[.int .i64 q, .slice ao m cap] 25)).alloc (.cells #[.int .i64 q] 64)).alloc (.cells #[.int .i64 i] 3) := ⟨_, rfl⟩
  have hnA : New w wA := by rw [hwA]; exact ((New.alloc _ _).trans (New.alloc _ _)).trans (New.alloc _ _)
  have hbc : Blk2 wA w.heap.size (.int .i64 q) (.slice ao m cap) 25 := by rw [hwA]; exact ((Blk2.alloc w _ _ _).new (New.alloc _ _)).new (New.alloc _ _)
  have hbf : Blk1 wA (w.heap.size + 1) (.int .i64 q) 64 := by
    rw [hwA]
    have := Blk1.alloc (w.alloc (.cells #[.int .i64 q, .slice ao m cap] 25)) (.int .i64 q) 64
    rw [World.size_alloc] at this
    exact this.new (New.alloc _ _)
  have hbi : Blk1 wA (w.heap.size + 1 + 1) (.int .i64 i) 3 := by
    rw [hwA]
    have := Blk1.alloc ((w.alloc (.cells #[.int .i64 q, .slice ao m cap] 25)).alloc (.cells #[.int .i64 q] 64)) (.int .i64 i) 3
    rw [World.size_alloc, World.size_alloc] at this
    exact this
  have HR := Lib.hid hr
  have HT := Lib.hid ht
  have HA := Lib.hid (And.intro hnA (And.intro hbc (And.intro hbf hbi)))
  have HWA := Lib.hid hwA
  clear hr ht hnA hbc hbf hbi hwA
  go_enter Try.func86, Try.ntmps86
  go_wp2_with fail
  rw [← HWA.out]
  refine (columnsOf_any _ _ rows _ (HR.out.new HA.out.1) HT.out.r1).mono ?_
  rintro e w2 ⟨rfl, hn2⟩
  have HN2 := Lib.hid hn2
  clear hn2
  rw [HT.out.cols]
  go_wp2_with fail
  refine (least_any n hn7 _ _ _ _ (helps1_any q n i _ _ _ _ rows _ (HR.out.new (HA.out.1.trans HN2.out)) HT.out hi (HA.out.2.2.2.new HN2.out) (HA.out.2.2.1.new HN2.out) (HA.out.2.1.new HN2.out))).mono ?_
  rintro e w3 ⟨u, out, rfl, ho, hf, hq, hn3⟩
  have HE := Lib.hid (And.intro ho (And.intro hf (And.intro hq hn3)))
  clear ho hf hq hn3
  go_wp2_with fail
  go_ret
  exact ⟨u, out, rfl, HE.out.1, (fun g hg => Nat.le_trans (HA.out.1.trans HN2.out).size (HE.out.2.1 g hg)), HE.out.2.2.1, (HA.out.1.trans HN2.out).trans HE.out.2.2.2⟩
end Go.Proofs.Ytmehgchmnnbkfaa

namespace Go.Proofs.Ytmehgchmnnbkfaa
open Go.RowKit Mat
set_option linter.unusedVariables false

set_option maxRecDepth 100000 in
set_option maxHeartbeats 4000000 in
theorem specHelpers_any (q : Nat) [NeZero q] (n i : Nat) (v : Value) (rows : List (List Int)) (w : World) (hr : IsR w v rows) (ht : TabOk q n rows) (hi : i < n) :
    Calls Try.prog 152 #[.agg #[.int .i64 q, v], .int .i64 i] w fun e w' => GivesI w e w' (LeastTo (2 ^ n) (HelpQ q rows n i) ((n + 1) * 2 ^ n)) := by
  obtain ⟨ao, m, cap, rfl, HN, hm⟩ := hr.shape
  have hm1 : 0 < m := by rw [HN.out]; exact ht.r1
  have hn7 := ht.n7
  have hp := pow_lt hn7
  have hp0 : 0 < 2 ^ n := Nat.two_pow_pos _
  obtain ⟨N, hNN⟩ : ∃ N, N = 2 ^ n := ⟨_, rfl⟩
  rw [← hNN] at hp hp0 ⊢
  have h1 : New w (w.alloc (.cells #[.int .i64 q, .slice ao m cap] 25)) := New.alloc _ _
  have b1 := Blk2.alloc w (.int .i64 q) (.slice ao m cap) 25
  obtain ⟨b, o, u0, rfl, ck0, hu0⟩ := hr.at hm1
  rw [Nat.add_zero] at ck0
  obtain ⟨au0, n0, cu0, rfl, HN0, hnu0⟩ := hu0.shape
  have hn0 : n = n0 := by rw [HN0.out, ht.cols]
  subst hn0
  have HR := Lib.hid hr
  have HT := Lib.hid ht
  have HNN := Lib.hid hNN
  clear hr ht hNN hu0
  obtain ⟨wA, hwA⟩ : ∃ wA : World, wA = w.alloc (.cells #[.int .i64 q, .slice (some ⟨b, o, none⟩) m cap] 25) := ⟨_, rfl⟩
  rw [← hwA] at h1 b1
  have HWA := Lib.hid hwA
  have hblt : b < w.heap.size := World.block_lt_of_cell? _ _ ck0
  have hszA : wA.heap.size = w.heap.size + 1 := by rw [hwA]; simp
  clear hwA
  go_enter Try.func152, Try.ntmps152
  go_wp2_with fail
  rw [← HWA.out]
  clear ck0 hblt
  go_loopw [5, 7] (fun t x wr => ∃ (a : Nat) (res : List Int), x = .int .i64 a ∧ a ≤ n ∧ Hid (New wA wr ∧ Own wr 3 t (res.map (Value.int .i64)) ∧ From wA.heap.size t ∧ LeastTo N (HelpQ q rows n i) (a * N) res)) (fun _ x _ => n - (intOf x).toNat)
  case atStart =>
    exact ⟨0, [], rfl, Nat.zero_le _, New.alloc _ _, (by have := Own.empty wA 3; rw [hszA] at this; exact this), (fun g hg => by simp [Value.ownBlock] at hg; omega), by rw [Nat.zero_mul]; rfl⟩
  case round =>
    obtain ⟨a, res, rfl, han, HD⟩ := hrel
    obtain ⟨wo, hwo⟩ : ∃ wo : World, wo = wr := ⟨_, rfl⟩
    rw [← hwo] at HD
    rw [← hwo]
    clear hwo
    by_cases hal : a < n
    · have hdl : decide ((a : Int) < (n : Int)) = true := by simp; omega
      go_wp2_with fail
      clear hdl
      go_loopw [5, 8] (fun t x wr => ∃ (s : Nat) (res : List Int), x = .int .i64 s ∧ s ≤ N ∧ Hid (New wA wr ∧ Own wr 3 t (res.map (Value.int .i64)) ∧ From wA.heap.size t ∧ LeastTo N (HelpQ q rows n i) (a * N + s) res)) (fun _ x _ => N - (intOf x).toNat)
      case atStart => exact ⟨0, res, rfl, by omega, HD.out⟩
      case round =>
        clear HD
        clear res
        obtain ⟨s, res, rfl, hs, HD⟩ := hrel
        obtain ⟨wz, hwz⟩ : ∃ wz : World, wz = wr := ⟨_, rfl⟩
        rw [← hwz] at HD
        rw [← hwz]
        clear hwz
        have hbd := HD.out.2.2.2.bounds hp0
        have hrl : res.length ≤ 1200 := by
          have : a * N ≤ 7 * 128 := Nat.mul_le_mul (by omega) (by omega)
          omega
        have hlen : (res.map (Value.int .i64)).length + 1 ≤ 1099511627776 := by rw [List.length_map]; omega
        have hml : Mid res.length := by unfold Mid; omega
        have HBD := Lib.hid hbd
        obtain ⟨a3, l3, c3, rfl, HL3, _, _⟩ := HD.out.2.1.opened (by unfold Mid; omega)
        have hl3 : l3 = res.length := by rw [HL3.out, List.length_map]
        have HL := Lib.hid hl3
        have HIN := Lib.hid (HD.out.2.1.isI hml)
        have hbz := b1.new HD.out.1
        obtain ⟨c0, c1, _, _⟩ := hbz.cells
        have hb0 : w.heap.size < wz.heap.size := by have := HD.out.1.size; omega
        clear hbd hl3
        by_cases hsN : s < N
        · have hs128 : s < 128 := by omega
          obtain ⟨c, hc⟩ : ∃ c, c = wtN s 7 := ⟨_, rfl⟩
          go_wp2_with (go_at_call 83; refine (power_any n _ (by omega)).mono ?_; rintro e w' ⟨rfl, rfl⟩; rw [← HNN.out])
          refine (weight_any s _ hs128).mono ?_
          rintro e w' ⟨rfl, rfl⟩
          rw [← hc]
          have HC := Lib.hid hc
          clear hc
          by_cases hsz : c = a
          · subst hsz
            rcases (show bitN s i = 0 ∨ bitN s i = 1 by unfold bitN; omega) with hb | hb
            · have HB := Lib.hid hb
              clear hb
              go_wp2_with (go_at_call 124; refine (bit_any _ _ _ (by omega) (by omega)).mono ?_; rintro e w' ⟨rfl, rfl⟩; rw [HB.out])
              refine (specHelps_any q n i s _ rows _ (HR.out.new (h1.trans HD.out.1)) HT.out hi (by rw [← HNN.out]; exact hsN) HB.out).mono ?_
              rintro e w5 ⟨b5, rfl, hb5, hn5⟩
              have HB5 := Lib.hid hb5
              have HO5 := Lib.hid (And.intro (HD.out.2.1.new hn5) (And.intro HD.out.2.2.1 (And.intro (HD.out.1.trans hn5) (HIN.out.new hn5))))
              clear hb5 hn5 c0 c1 hbz
              cases b5 with
              | false =>
                go_wp2_with fail
                go_roundw
                case rel => exact ⟨s + 1, res, by go_num, by omega, HO5.out.2.2.1, HO5.out.1, HO5.out.2.1, HD.out.2.2.2.no hsN (fun h => by have := HB5.out.2 h.2.1.2; simp at this)⟩
                case measure => simp [intOf]; omega
              | true =>
                go_wp2_with fail
                go_loopw [9, 10] (fun t9 t10 wr => ∃ (j : Nat) (b : Bool), t9 = .bool b ∧ t10 = .int .i64 j ∧ j ≤ l3 ∧ Hid ((b = true ↔ ∀ x, x < j → ¬ Sub (gi res x).toNat s) ∧ New w5 wr)) (fun _ t10 _ => l3 - (intOf t10).toNat)
                case atStart => exact ⟨0, true, rfl, rfl, Nat.zero_le _, ⟨fun _ x hx => by omega, fun _ => rfl⟩, Chg.refl _ _⟩
                case round =>
                  obtain ⟨j, bl, rfl, rfl, hj, HJ⟩ := hrel
                  obtain ⟨wy, hwy⟩ : ∃ wy : World, wy = wr := ⟨_, rfl⟩
                  rw [← hwy] at HJ
                  rw [← hwy]
                  clear hwy
                  have HO6 := Lib.hid (And.intro (HO5.out.1.new HJ.out.2) (And.intro HO5.out.2.1 (HO5.out.2.2.1.trans HJ.out.2)))
                  by_cases hjl : j < l3
                  · obtain ⟨bx, ox, rfl, cx⟩ := (HO5.out.2.2.2.new HJ.out.2).at hjl
                    have hjb := HBD.out.2 j (by rw [← HL.out]; exact hjl)
                    obtain ⟨y, hy⟩ : ∃ y : Nat, gi res j = y := ⟨(gi res j).toNat, by omega⟩
                    rw [hy] at cx hjb
                    have hy128 : y < 128 := by omega
                    have hand := and_i64 y hy128 s hs128
                    obtain ⟨h, hh⟩ : ∃ h, h = y &&& s := ⟨_, rfl⟩
                    rw [← hh] at hand
                    have HY := Lib.hid (And.intro hy hh)
                    clear hy hh hjb
                    cases bl with
                    | false =>
                      go_wp2_with fail
                      go_quiet (fail)
                      go_wp2_with fail
                      go_roundw
                      case rel => exact ⟨j + 1, false, rfl, by go_num, by omega, ⟨fun h => by simp at h, fun h => HJ.out.1.2 (fun x hx => h x (by omega))⟩, HJ.out.2.trans (New.drewN _ _)⟩
                      case measure => simp [intOf]; omega
                    | true =>
                      by_cases hhy : h = y
                      · subst hhy
                        go_wp2_with fail
                        go_quiet (fail)
                        go_wp2_with fail
                        go_roundw
                        case rel => exact ⟨j + 1, false, rfl, by go_num, by omega, ⟨fun h => by simp at h, fun h2 => absurd (show Sub (gi res j).toNat s by rw [HY.out.1]; exact HY.out.2.symm) (h2 j (by omega))⟩, HJ.out.2.trans (New.drewN _ _)⟩
                        case measure => simp [intOf]; omega
                      · have hd2 : ((h : Int) != (y : Int)) = true := by simp; omega
                        go_wp2_with fail
                        go_quiet (fail)
                        go_wp2_with fail
                        go_roundw
                        case rel => exact ⟨j + 1, true, rfl, by go_num, by omega, ⟨fun _ x hx => (by
                          by_cases e : x = j
                          · rw [e, HY.out.1]; intro h2; exact hhy (by rw [HY.out.2]; exact h2)
                          · exact HJ.out.1.1 (by trivial) x (by omega)), fun _ => rfl⟩, HJ.out.2.trans (New.drewN _ _)⟩
                        case measure => simp [intOf]; omega
                  · obtain rfl : j = l3 := by omega
                    cases bl with
                    | false =>
                      go_wp2_with fail
                      go_roundw
                      case rel => exact ⟨s + 1, res, by go_num, by omega, HO6.out.2.2, HO6.out.1, HO6.out.2.1, HD.out.2.2.2.no hsN (fun h => by have := HJ.out.1.2 (fun x hx => h.2.2 x (by rw [← HL.out]; exact hx)); simp at this)⟩
                      case measure => simp [intOf]; omega
                    | true =>
                      go_wp2_with (at_builtin; refine wpList_app1 rfl _ _ _ rfl tyInt _ HO6.out.1 rfl _ _ rfl rfl rfl hlen ?_; intro v2 w6 k1 k2 k3; have K2 := Lib.hid (And.intro k1 (And.intro k2 k3)); clear k1 k2 k3)
                      go_roundw
                      case rel =>
                        obtain ⟨k1, k2, k3⟩ := K2.out
                        exact ⟨s + 1, res ++ [(s : Int)], by go_num, by omega, HO6.out.2.2.then k2 (fun i hi => HO6.out.2.1 i hi), by rw [List.map_append]; exact k1, (fun g hg => by
                          rcases k3 g hg with x | x
                          · exact HO6.out.2.1 g x
                          · exact Nat.le_trans HO6.out.2.2.size x), HD.out.2.2.2.yes hsN HC.out.symm ⟨HB.out, HB5.out.1 (by trivial)⟩ (fun x hx => HJ.out.1.1 (by trivial) x (by rw [HL.out]; exact hx))⟩
                      case measure => simp [intOf]; omega
            · have HB := Lib.hid hb
              clear hb
              go_wp2_with (go_at_call 124; refine (bit_any _ _ _ (by omega) (by omega)).mono ?_; rintro e w' ⟨rfl, rfl⟩; rw [HB.out])
              go_roundw
              case rel => exact ⟨s + 1, res, by go_num, by omega, HD.out.1, HD.out.2.1, HD.out.2.2.1, HD.out.2.2.2.no hsN (fun h => by have := h.2.1.1; rw [HB.out] at this; omega)⟩
              case measure => simp [intOf]; omega
          · have hd : ((c : Int) != (a : Int)) = true := by simp; omega
            have HSZ := Lib.hid hsz
            clear hsz
            go_wp2_with fail
            go_roundw
            case rel => exact ⟨s + 1, res, by go_num, by omega, HD.out.1, HD.out.2.1, HD.out.2.2.1, HD.out.2.2.2.no hsN (fun h => HSZ.out (by rw [HC.out]; exact h.1))⟩
            case measure => simp [intOf]; omega
        · obtain rfl : s = N := by omega
          go_wp2_with (go_at_call 83; refine (power_any n _ (by omega)).mono ?_; rintro e w' ⟨rfl, rfl⟩; rw [← HNN.out])
          go_roundw
          case rel => exact ⟨a + 1, res, by go_num, by omega, HD.out.1, HD.out.2.1, HD.out.2.2.1, by have := HD.out.2.2.2.turn; rw [Nat.add_zero] at this; exact this⟩
          case measure => simp [intOf]; omega
    · obtain rfl : a = n := by omega
      go_wp2_with fail
      go_ret
      refine ⟨_, res, rfl, HD.out.2.1, fun g hg => ?_, HD.out.2.2.2.skip (fun s hs hw hq => ?_), h1.trans HD.out.1⟩
      · have := HD.out.2.2.1 g hg
        omega
      · have := wt_full a (by omega) s (by omega) (by rw [← HNN.out]; exact hs) hw i hi
        have := hq.1
        omega
end Go.Proofs.Ytmehgchmnnbkfaa
