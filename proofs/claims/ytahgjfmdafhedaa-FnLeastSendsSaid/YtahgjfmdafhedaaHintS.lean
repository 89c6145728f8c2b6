/- Hints of the reference: what receivers have; the least rank of rows that fit. -/
import Derived.Deep.CutBlock
import Derived.Deep.DeepCutAuto
import Derived.Test.YtahgjfmdafhedaaHintM
import Derived.Test.YtahgjfmdafhedaaRedu
import Derived.Test.YtahgjfmdafhedaaLeaf
import Derived.Test.YtahgjfmdafhedaaSchA
import Derived.Test.YtahgjfmdafhedaaBase
import Derived.Test.YtahgjfmdafhedaaSolS
import Derived.Test.YtahgjfmdafhedaaKnow
namespace Go.Proofs.Ytahgjfmdafhedaa
open Go.RowKit Mat
set_option linter.unusedVariables false

/-- 2 to n, as the machine has it. -/
def itr : Nat → Int
  | 0 => 1
  | n + 1 => IntKind.i64.wrap (2 * itr n)
theorem itr_low : ∀ n : Nat, n < 63 → itr n = (2 ^ n : Nat) := by decide +kernel
theorem itr_zero : ∀ n, itr (64 + n) = 0
  | 0 => by decide +kernel
  | n + 1 => by show IntKind.i64.wrap (2 * itr (64 + n)) = 0; rw [itr_zero n]; rfl
theorem powerW_any (n : Nat) (w : World) (hn : n ≤ 1099511627776) :
    Calls Try.prog 62 #[.int .i64 n] w fun e w' => e = .returned (.int .i64 (itr n)) ∧ w = w' := by
  go_enter Try.func62, Try.ntmps62
  go_wp2_with fail
  go_loop [0, 3] (fun t0 t3 => ∃ (k : Nat) (x : Int), t0 = .int .i64 k ∧ t3 = .int .i64 x ∧ k ≤ n ∧ Hid (x = itr (n - k))) (fun t0 _ => (intOf t0).toNat)
  case atStart => exact ⟨n, 1, rfl, rfl, Nat.le_refl _, by show 1 = itr (n - n); rw [Nat.sub_self]; rfl⟩
  case round =>
    obtain ⟨k, x, rfl, rfl, hk, HX⟩ := hrel
    by_cases hk0 : 0 < k
    · go_wp2_with fail
      go_round
      case rel =>
        refine ⟨k - 1, IntKind.i64.wrap (2 * x), by apply val_int; omega, val_int (IntWalk.i64_left _).symm, by omega, ?_⟩
        show IntKind.i64.wrap (2 * x) = itr (n - (k - 1))
        rw [show n - (k - 1) = (n - k) + 1 by omega, itr, ← HX.out]
      case measure => simp [intOf]; omega
    · obtain rfl : k = 0 := by omega
      have HE := Lib.hid (show x = itr n from HX.out)
      go_wp2_with fail
      go_ret
      exact ⟨ret_int HE.out, rfl⟩

theorem bitW_any (s i : Nat) (w : World) (hs : (s : Int) ≤ 9223372036854775807) (hi : i ≤ 62) :
    Calls Try.prog 67 #[.int .i64 s, .int .i64 i] w fun e w' => e = .returned (.int .i64 (bitN s i)) ∧ w = w' := by
  have hp : 2 ^ i ≤ 4611686018427387904 := two_pow_le (m := i) (n := 62) hi
  have hp0 : 0 < 2 ^ i := Nat.two_pow_pos _
  have hb : bitN s i = s / 2 ^ i % 2 := rfl
  have hit := itr_low i (by omega)
  obtain ⟨p, hpe⟩ : ∃ p, p = 2 ^ i := ⟨_, rfl⟩
  rw [← hpe] at hp hp0 hb hit
  obtain ⟨q, hq⟩ : ∃ q, q = s / p := ⟨_, rfl⟩
  rw [← hq] at hb
  have hqi : (s : Int) / (p : Int) = (q : Int) := by rw [hq]; simp
  have hqs : q ≤ s := by rw [hq]; exact Nat.div_le_self _ _
  have htm : (q : Int).tmod 2 = ((bitN s i : Nat) : Int) := by rw [hb, Int.tmod_eq_emod_of_nonneg (by omega)]; omega
  have HP := Lib.hid hit
  clear hpe hb hq hit
  go_enter Try.func67, Try.ntmps67
  go_wp2_with (go_at_call 62; refine (powerW_any _ _ (by omega)).mono ?_; rintro e w' ⟨rfl, rfl⟩; rw [HP.out])
  go_ret
  exact ⟨rfl, rfl⟩

theorem hints_top : ∀ n : Nat, n < 5 → IntKind.i64.wrap (itr n - 1) = ((2 ^ n : Nat) : Int) - 1 := by decide +kernel
theorem hints_iff {has : List Int} : HintsOk has ↔ (inB (has.length : Int) 1 4 = true ∧ ∀ j, j < has.length → inB (gi has j) 0 (IntKind.i64.wrap (itr has.length - 1)) = true ∧ bitN (hN has j) j = 0) := by
  constructor
  · intro h
    refine ⟨inB_iff.2 ⟨by have := h.n1; omega, by have := h.n4; omega⟩, fun j hj => ⟨inB_iff.2 ?_, h.own j hj⟩⟩
    rw [hints_top _ (by have := h.n4; omega)]
    have := h.ok j hj
    omega
  · rintro ⟨h1, h2⟩
    have h1 := inB_iff.1 h1
    refine ⟨by omega, by omega, fun i hi => ?_, fun i hi => (h2 i hi).2⟩
    have h3 := inB_iff.1 (h2 i hi).1
    rw [hints_top _ (by omega)] at h3
    omega
theorem itr_last : IntKind.i64.wrap (itr 63 - 1) ≤ 9223372036854775807 := by decide +kernel
theorem itr_top : ∀ n : Nat, n < 64 → IntKind.i64.wrap (itr n - 1) ≤ 9223372036854775807 := by decide +kernel
theorem itr_none {n : Nat} (h : 64 ≤ n) : IntKind.i64.wrap (itr n - 1) = -1 := by
  obtain ⟨k, rfl⟩ : ∃ k, n = 64 + k := ⟨n - 64, by omega⟩
  rw [itr_zero]; rfl

set_option maxRecDepth 100000 in
set_option maxHeartbeats 2000000 in
theorem validHints_any (v : Value) (has : List Int) (w : World) (hx : IsI w v has) (hl : has.length ≤ 1099511627776) :
    Calls Try.prog 73 #[v] w fun e w' => SaysB e (HintsOk has) ∧ New w w' := by
  obtain ⟨ao, n, cap, rfl, HN, hn⟩ := hx.shape
  obtain ⟨P, hP⟩ : ∃ P, P = itr n := ⟨_, rfl⟩
  obtain ⟨Q, hQ⟩ : ∃ Q, IntKind.i64.wrap (P - 1) = Q := ⟨_, rfl⟩
  have HQ := Lib.hid (And.intro hP hQ)
  have HP := Lib.hid hP
  have HX := Lib.hid hx
  have hnl : n ≤ 1099511627776 := by rw [HN.out]; exact hl
  have HI := Lib.hid (hints_iff (has := has))
  rw [← HN.out, ← hP, hQ] at HI
  clear hx hl hP hQ
  go_enter Try.func73, Try.ntmps73
  go_wp2_with fail
  go_loopw [3] (fun t3 wr => ∃ i : Nat, t3 = .int .i64 i ∧ i ≤ n ∧ Hid ((∀ j, j < i → inB (gi has j) 0 Q = true ∧ bitN (hN has j) j = 0) ∧ New w wr)) (fun t3 _ => n - (intOf t3).toNat)
  case atStart => exact ⟨0, rfl, Nat.zero_le _, fun j hj => by omega, Chg.refl _ _⟩
  case round =>
    obtain ⟨i, rfl, hi, HD⟩ := hrel
    obtain ⟨wz, hwz⟩ : ∃ wz : World, wz = wr := ⟨_, rfl⟩
    rw [← hwz] at HD
    rw [← hwz]
    clear hwz
    by_cases hin : i < n
    · obtain ⟨b, o, rfl, ck⟩ := (HX.out.new HD.out.2).at hin
      obtain ⟨x, hxe⟩ : ∃ x, gi has i = x := ⟨_, rfl⟩
      rw [hxe] at ck
      have CK := Lib.hid ck
      have HXE := Lib.hid hxe
      have hQ : IntKind.i64.wrap (P - 1) = Q := HQ.out.2
      clear ck hxe
      cases hrb : inB x 0 Q with
      | false =>
        have HRB := Lib.hid hrb
        clear hrb
        go_upto_region 4 with fail
        refine wp_region_held_drew (S := fun w' => New wz w') (by kernel_rfl) (New.drew _) (fun hY => ?_)
        refine held_take 0 (some 10) rfl rfl (by kernel_rfl) (by kernel_rfl) (by kernel_rfl) (fun _ _ _ h => h) rfl hY (v := ?_) (fun w' hS => by skip; go_simp; try with_reducible rfl) ?_
        simp only [Act.put, List.setIfInBounds_toArray, List.set_cons_zero, List.set_cons_succ]
        refine held_take 1 (some 11) rfl rfl (by kernel_rfl) (by kernel_rfl) (by kernel_rfl) (fun _ _ _ h => h) rfl hY (v := ?_) (fun w' hS => by skip; go_simp; try with_reducible rfl) ?_
        simp only [Act.put, List.setIfInBounds_toArray, List.set_cons_zero, List.set_cons_succ]
        refine held_take 2 (some 12) rfl rfl (by kernel_rfl) (by kernel_rfl) (by kernel_rfl) (fun _ _ _ h => h) rfl hY (v := ?_) (fun w' hS => by skip; go_simp; try with_reducible rfl) ?_
        simp only [Act.put, List.setIfInBounds_toArray, List.set_cons_zero, List.set_cons_succ]
        refine held_take 3 (some 13) rfl rfl (by kernel_rfl) (by kernel_rfl) (by kernel_rfl) (fun _ _ _ h => h) rfl hY (v := .int .i64 x) (fun w' hS => by have ck1 := hS.cellNew CK.out; go_simp; try with_reducible rfl) ?_
        simp only [Act.put, List.setIfInBounds_toArray, List.set_cons_zero, List.set_cons_succ]
        refine held_take 4 (some 14) rfl rfl (by kernel_rfl) (by kernel_rfl) (by kernel_rfl) (fun _ _ _ h => h) rfl hY (v := ?_) (fun w' hS => by skip; go_simp; try with_reducible rfl) ?_
        simp only [Act.put, List.setIfInBounds_toArray, List.set_cons_zero, List.set_cons_succ]
        refine held_take 5 (some 15) rfl rfl (by kernel_rfl) (by kernel_rfl) (by kernel_rfl) (fun _ _ _ h => h) rfl hY (v := ?_) (fun w' hS => by skip; go_simp; try with_reducible rfl) ?_
        simp only [Act.put, List.setIfInBounds_toArray, List.set_cons_zero, List.set_cons_succ]
        refine held_only 6 (by kernel_rfl) rfl rfl (fun K1 hK1 => ?_)
        go_simp
        refine (powerW_any n _ (by omega)).mono ?_
        rintro e w' ⟨rfl, rfl⟩
        rw [← HP.out]
        have hnp := Chg.refl (fun _ => False) wz.drew
        refine hK1.out _ _ (hY.trans hnp) (fun hY1 => ?_)
        clear hK1 K1
        refine held_take 7 (some 17) rfl rfl (by kernel_rfl) (by kernel_rfl) (by kernel_rfl) (fun _ _ _ h => h) rfl hY1 (v := .int .i64 Q) (fun w' hS => by skip; go_simp; try (first | (with_reducible rfl) | exact hQ | (simp [hQ]; done))) ?_
        simp only [Act.put, List.setIfInBounds_toArray, List.set_cons_zero, List.set_cons_succ]
        refine held_only 8 (by kernel_rfl) rfl rfl (fun K2 hK2 => ?_)
        go_simp
        refine (inRange_any _ _ _ _).mono ?_
        rintro e w' ⟨rfl, rfl⟩
        rw [HRB.out]
        have hnr := Chg.refl (fun _ => False) wz.drew
        refine hK2.out _ _ (hY1.trans hnr) (fun hY2 => ?_)
        clear hK2 K2
        refine held_take 9 (some 19) rfl rfl (by kernel_rfl) (by kernel_rfl) (by kernel_rfl) (fun _ _ _ h => h) rfl hY2 (v := .bool true) (fun w' hS => by skip; go_simp; try (first | (with_reducible rfl) | (simp; done))) ?_
        simp only [Act.put, List.setIfInBounds_toArray, List.set_cons_zero, List.set_cons_succ]
        refine held_take 10 (some 20) rfl rfl (by kernel_rfl) (by kernel_rfl) (by kernel_rfl) (fun _ _ _ h => h) rfl hY2 (v := .bool true) (fun w' hS => by skip; go_simp; try (first | (with_reducible rfl) | (simp; done))) ?_
        simp only [Act.put, List.setIfInBounds_toArray, List.set_cons_zero, List.set_cons_succ]
        refine held_skip 11 (some 21) rfl rfl (by kernel_rfl) (by kernel_rfl) (by kernel_rfl) (fun _ _ _ h => h) rfl hY2 ?_
        simp only [Act.put, List.setIfInBounds_toArray, List.set_cons_zero, List.set_cons_succ]
        refine held_skip 12 (some 22) rfl rfl (by kernel_rfl) (by kernel_rfl) (by kernel_rfl) (fun _ _ _ h => h) rfl hY2 ?_
        simp only [Act.put, List.setIfInBounds_toArray, List.set_cons_zero, List.set_cons_succ]
        refine held_skip 13 (some 23) rfl rfl (by kernel_rfl) (by kernel_rfl) (by kernel_rfl) (fun _ _ _ h => h) rfl hY2 ?_
        simp only [Act.put, List.setIfInBounds_toArray, List.set_cons_zero, List.set_cons_succ]
        refine held_skip 14 (some 24) rfl rfl (by kernel_rfl) (by kernel_rfl) (by kernel_rfl) (fun _ _ _ h => h) rfl hY2 ?_
        simp only [Act.put, List.setIfInBounds_toArray, List.set_cons_zero, List.set_cons_succ]
        refine held_skip 15 (some 25) rfl rfl (by kernel_rfl) (by kernel_rfl) (by kernel_rfl) (fun _ _ _ h => h) rfl hY2 ?_
        simp only [Act.put, List.setIfInBounds_toArray, List.set_cons_zero, List.set_cons_succ]
        refine held_skip 16 (some 26) rfl rfl (by kernel_rfl) (by kernel_rfl) (by kernel_rfl) (fun _ _ _ h => h) rfl hY2 ?_
        simp only [Act.put, List.setIfInBounds_toArray, List.set_cons_zero, List.set_cons_succ]
        refine held_skip 17 (some 27) rfl rfl (by kernel_rfl) (by kernel_rfl) (by kernel_rfl) (fun _ _ _ h => h) rfl hY2 ?_
        simp only [Act.put, List.setIfInBounds_toArray, List.set_cons_zero, List.set_cons_succ]
        refine held_take 18 (some 28) rfl rfl (by kernel_rfl) (by kernel_rfl) (by kernel_rfl) (fun _ _ _ h => h) rfl hY2 (v := .bool true) (fun w' hS => by skip; go_simp; try (first | (with_reducible rfl) | (simp; done))) ?_
        simp only [Act.put, List.setIfInBounds_toArray, List.set_cons_zero, List.set_cons_succ]
        refine wpAnyH_done (by kernel_rfl) ?_ _
        clear hQ
        go_wp2_with fail
        go_ret
        exact ⟨⟨false, rfl, ⟨(fun h => by cases h), fun h => by have h9 := ((HI.out.1 h).2 i hin).1; rw [HXE.out, HRB.out] at h9; cases h9⟩⟩, HD.out.2.trans hY2⟩
      | true =>
        have hr := inB_iff.1 hrb
        have hn63 : n < 64 := by
          apply Classical.byContradiction
          intro hc
          have h9 := itr_none (n := n) (by omega)
          rw [← HP.out, HQ.out.2] at h9
          omega
        have hQ7 : Q ≤ 9223372036854775807 := by have h9 := itr_top n hn63; rw [← HP.out, HQ.out.2] at h9; exact h9
        obtain ⟨s, rfl⟩ : ∃ s : Nat, x = s := ⟨x.toNat, by omega⟩
        have hs7 : (s : Int) ≤ 9223372036854775807 := by omega
        have HRB := Lib.hid hrb
        have hsN : hN has i = s := by unfold hN; rw [HXE.out]; simp
        have HSN := Lib.hid hsN
        clear hrb hr hQ7 hsN
        rcases bit_vals s i with hb | hb
        · have HB := Lib.hid hb
          clear hb
          go_upto_region 4 with fail
          refine wp_region_held_drew (S := fun w' => New wz w') (by kernel_rfl) (New.drew _) (fun hY => ?_)
          refine held_take 0 (some 10) rfl rfl (by kernel_rfl) (by kernel_rfl) (by kernel_rfl) (fun _ _ _ h => h) rfl hY (v := ?_) (fun w' hS => by skip; go_simp; try with_reducible rfl) ?_
          simp only [Act.put, List.setIfInBounds_toArray, List.set_cons_zero, List.set_cons_succ]
          refine held_take 1 (some 11) rfl rfl (by kernel_rfl) (by kernel_rfl) (by kernel_rfl) (fun _ _ _ h => h) rfl hY (v := ?_) (fun w' hS => by skip; go_simp; try with_reducible rfl) ?_
          simp only [Act.put, List.setIfInBounds_toArray, List.set_cons_zero, List.set_cons_succ]
          refine held_take 2 (some 12) rfl rfl (by kernel_rfl) (by kernel_rfl) (by kernel_rfl) (fun _ _ _ h => h) rfl hY (v := ?_) (fun w' hS => by skip; go_simp; try with_reducible rfl) ?_
          simp only [Act.put, List.setIfInBounds_toArray, List.set_cons_zero, List.set_cons_succ]
          refine held_take 3 (some 13) rfl rfl (by kernel_rfl) (by kernel_rfl) (by kernel_rfl) (fun _ _ _ h => h) rfl hY (v := .int .i64 s) (fun w' hS => by have ck1 := hS.cellNew CK.out; go_simp; try with_reducible rfl) ?_
          simp only [Act.put, List.setIfInBounds_toArray, List.set_cons_zero, List.set_cons_succ]
          refine held_take 4 (some 14) rfl rfl (by kernel_rfl) (by kernel_rfl) (by kernel_rfl) (fun _ _ _ h => h) rfl hY (v := ?_) (fun w' hS => by skip; go_simp; try with_reducible rfl) ?_
          simp only [Act.put, List.setIfInBounds_toArray, List.set_cons_zero, List.set_cons_succ]
          refine held_take 5 (some 15) rfl rfl (by kernel_rfl) (by kernel_rfl) (by kernel_rfl) (fun _ _ _ h => h) rfl hY (v := ?_) (fun w' hS => by skip; go_simp; try with_reducible rfl) ?_
          simp only [Act.put, List.setIfInBounds_toArray, List.set_cons_zero, List.set_cons_succ]
          refine held_only 6 (by kernel_rfl) rfl rfl (fun K1 hK1 => ?_)
          go_simp
          refine (powerW_any n _ (by omega)).mono ?_
          rintro e w' ⟨rfl, rfl⟩
          rw [← HP.out]
          have hnp := Chg.refl (fun _ => False) wz.drew
          refine hK1.out _ _ (hY.trans hnp) (fun hY1 => ?_)
          clear hK1 K1
          refine held_take 7 (some 17) rfl rfl (by kernel_rfl) (by kernel_rfl) (by kernel_rfl) (fun _ _ _ h => h) rfl hY1 (v := .int .i64 Q) (fun w' hS => by skip; go_simp; try (first | (with_reducible rfl) | exact hQ | (simp [hQ]; done))) ?_
          simp only [Act.put, List.setIfInBounds_toArray, List.set_cons_zero, List.set_cons_succ]
          refine held_only 8 (by kernel_rfl) rfl rfl (fun K2 hK2 => ?_)
          go_simp
          refine (inRange_any _ _ _ _).mono ?_
          rintro e w' ⟨rfl, rfl⟩
          rw [HRB.out]
          have hnr := Chg.refl (fun _ => False) wz.drew
          refine hK2.out _ _ (hY1.trans hnr) (fun hY2 => ?_)
          clear hK2 K2
          refine held_take 9 (some 19) rfl rfl (by kernel_rfl) (by kernel_rfl) (by kernel_rfl) (fun _ _ _ h => h) rfl hY2 (v := .bool false) (fun w' hS => by skip; go_simp; try (first | (with_reducible rfl) | (simp; done))) ?_
          simp only [Act.put, List.setIfInBounds_toArray, List.set_cons_zero, List.set_cons_succ]
          refine held_take 10 (some 20) rfl rfl (by kernel_rfl) (by kernel_rfl) (by kernel_rfl) (fun _ _ _ h => h) rfl hY2 (v := .bool false) (fun w' hS => by skip; go_simp; try (first | (with_reducible rfl) | (simp; done))) ?_
          simp only [Act.put, List.setIfInBounds_toArray, List.set_cons_zero, List.set_cons_succ]
          refine held_take 11 (some 21) rfl rfl (by kernel_rfl) (by kernel_rfl) (by kernel_rfl) (fun _ _ _ h => h) rfl hY2 (v := ?_) (fun w' hS => by skip; go_simp; try with_reducible rfl) ?_
          simp only [Act.put, List.setIfInBounds_toArray, List.set_cons_zero, List.set_cons_succ]
          refine held_take 12 (some 22) rfl rfl (by kernel_rfl) (by kernel_rfl) (by kernel_rfl) (fun _ _ _ h => h) rfl hY2 (v := ?_) (fun w' hS => by skip; go_simp; try with_reducible rfl) ?_
          simp only [Act.put, List.setIfInBounds_toArray, List.set_cons_zero, List.set_cons_succ]
          refine held_take 13 (some 23) rfl rfl (by kernel_rfl) (by kernel_rfl) (by kernel_rfl) (fun _ _ _ h => h) rfl hY2 (v := ?_) (fun w' hS => by skip; go_simp; try with_reducible rfl) ?_
          simp only [Act.put, List.setIfInBounds_toArray, List.set_cons_zero, List.set_cons_succ]
          refine held_take 14 (some 24) rfl rfl (by kernel_rfl) (by kernel_rfl) (by kernel_rfl) (fun _ _ _ h => h) rfl hY2 (v := .int .i64 s) (fun w' hS => by have ck1 := hS.cellNew CK.out; go_simp; try with_reducible rfl) ?_
          simp only [Act.put, List.setIfInBounds_toArray, List.set_cons_zero, List.set_cons_succ]
          refine held_take 15 (some 25) rfl rfl (by kernel_rfl) (by kernel_rfl) (by kernel_rfl) (fun _ _ _ h => h) rfl hY2 (v := ?_) (fun w' hS => by skip; go_simp; try with_reducible rfl) ?_
          simp only [Act.put, List.setIfInBounds_toArray, List.set_cons_zero, List.set_cons_succ]
          refine held_only 16 (by kernel_rfl) rfl rfl (fun K3 hK3 => ?_)
          go_simp
          refine (bitW_any s i _ (by omega) (by omega)).mono ?_
          rintro e w' ⟨rfl, rfl⟩
          rw [HB.out]
          have hnb := Chg.refl (fun _ => False) wz.drew
          refine hK3.out _ _ (hY2.trans hnb) (fun hY3 => ?_)
          clear hK3 K3
          refine held_take 17 (some 27) rfl rfl (by kernel_rfl) (by kernel_rfl) (by kernel_rfl) (fun _ _ _ h => h) rfl hY3 (v := .bool false) (fun w' hS => by skip; go_simp; try (first | (with_reducible rfl) | (simp; done))) ?_
          simp only [Act.put, List.setIfInBounds_toArray, List.set_cons_zero, List.set_cons_succ]
          refine held_take 18 (some 28) rfl rfl (by kernel_rfl) (by kernel_rfl) (by kernel_rfl) (fun _ _ _ h => h) rfl hY3 (v := .bool false) (fun w' hS => by skip; go_simp; try (first | (with_reducible rfl) | (simp; done))) ?_
          simp only [Act.put, List.setIfInBounds_toArray, List.set_cons_zero, List.set_cons_succ]
          refine wpAnyH_done (by kernel_rfl) ?_ _
          clear hQ
          go_wp2_with fail
          go_roundw
          case rel =>
            refine ⟨i + 1, by go_num, by omega, fun j hj => ?_, HD.out.2.trans hY3⟩
            by_cases e : j = i
            · subst e; exact ⟨by rw [HXE.out]; exact HRB.out, by rw [HSN.out]; exact HB.out⟩
            · exact HD.out.1 j (by omega)
          case measure => simp [intOf]; omega
        · have HB := Lib.hid hb
          clear hb
          go_upto_region 4 with fail
          refine wp_region_held_drew (S := fun w' => New wz w') (by kernel_rfl) (New.drew _) (fun hY => ?_)
          refine held_take 0 (some 10) rfl rfl (by kernel_rfl) (by kernel_rfl) (by kernel_rfl) (fun _ _ _ h => h) rfl hY (v := ?_) (fun w' hS => by skip; go_simp; try with_reducible rfl) ?_
          simp only [Act.put, List.setIfInBounds_toArray, List.set_cons_zero, List.set_cons_succ]
          refine held_take 1 (some 11) rfl rfl (by kernel_rfl) (by kernel_rfl) (by kernel_rfl) (fun _ _ _ h => h) rfl hY (v := ?_) (fun w' hS => by skip; go_simp; try with_reducible rfl) ?_
          simp only [Act.put, List.setIfInBounds_toArray, List.set_cons_zero, List.set_cons_succ]
          refine held_take 2 (some 12) rfl rfl (by kernel_rfl) (by kernel_rfl) (by kernel_rfl) (fun _ _ _ h => h) rfl hY (v := ?_) (fun w' hS => by skip; go_simp; try with_reducible rfl) ?_
          simp only [Act.put, List.setIfInBounds_toArray, List.set_cons_zero, List.set_cons_succ]
          refine held_take 3 (some 13) rfl rfl (by kernel_rfl) (by kernel_rfl) (by kernel_rfl) (fun _ _ _ h => h) rfl hY (v := .int .i64 s) (fun w' hS => by have ck1 := hS.cellNew CK.out; go_simp; try with_reducible rfl) ?_
          simp only [Act.put, List.setIfInBounds_toArray, List.set_cons_zero, List.set_cons_succ]
          refine held_take 4 (some 14) rfl rfl (by kernel_rfl) (by kernel_rfl) (by kernel_rfl) (fun _ _ _ h => h) rfl hY (v := ?_) (fun w' hS => by skip; go_simp; try with_reducible rfl) ?_
          simp only [Act.put, List.setIfInBounds_toArray, List.set_cons_zero, List.set_cons_succ]
          refine held_take 5 (some 15) rfl rfl (by kernel_rfl) (by kernel_rfl) (by kernel_rfl) (fun _ _ _ h => h) rfl hY (v := ?_) (fun w' hS => by skip; go_simp; try with_reducible rfl) ?_
          simp only [Act.put, List.setIfInBounds_toArray, List.set_cons_zero, List.set_cons_succ]
          refine held_only 6 (by kernel_rfl) rfl rfl (fun K1 hK1 => ?_)
          go_simp
          refine (powerW_any n _ (by omega)).mono ?_
          rintro e w' ⟨rfl, rfl⟩
          rw [← HP.out]
          have hnp := Chg.refl (fun _ => False) wz.drew
          refine hK1.out _ _ (hY.trans hnp) (fun hY1 => ?_)
          clear hK1 K1
          refine held_take 7 (some 17) rfl rfl (by kernel_rfl) (by kernel_rfl) (by kernel_rfl) (fun _ _ _ h => h) rfl hY1 (v := .int .i64 Q) (fun w' hS => by skip; go_simp; try (first | (with_reducible rfl) | exact hQ | (simp [hQ]; done))) ?_
          simp only [Act.put, List.setIfInBounds_toArray, List.set_cons_zero, List.set_cons_succ]
          refine held_only 8 (by kernel_rfl) rfl rfl (fun K2 hK2 => ?_)
          go_simp
          refine (inRange_any _ _ _ _).mono ?_
          rintro e w' ⟨rfl, rfl⟩
          rw [HRB.out]
          have hnr := Chg.refl (fun _ => False) wz.drew
          refine hK2.out _ _ (hY1.trans hnr) (fun hY2 => ?_)
          clear hK2 K2
          refine held_take 9 (some 19) rfl rfl (by kernel_rfl) (by kernel_rfl) (by kernel_rfl) (fun _ _ _ h => h) rfl hY2 (v := .bool false) (fun w' hS => by skip; go_simp; try (first | (with_reducible rfl) | (simp; done))) ?_
          simp only [Act.put, List.setIfInBounds_toArray, List.set_cons_zero, List.set_cons_succ]
          refine held_take 10 (some 20) rfl rfl (by kernel_rfl) (by kernel_rfl) (by kernel_rfl) (fun _ _ _ h => h) rfl hY2 (v := .bool false) (fun w' hS => by skip; go_simp; try (first | (with_reducible rfl) | (simp; done))) ?_
          simp only [Act.put, List.setIfInBounds_toArray, List.set_cons_zero, List.set_cons_succ]
          refine held_take 11 (some 21) rfl rfl (by kernel_rfl) (by kernel_rfl) (by kernel_rfl) (fun _ _ _ h => h) rfl hY2 (v := ?_) (fun w' hS => by skip; go_simp; try with_reducible rfl) ?_
          simp only [Act.put, List.setIfInBounds_toArray, List.set_cons_zero, List.set_cons_succ]
          refine held_take 12 (some 22) rfl rfl (by kernel_rfl) (by kernel_rfl) (by kernel_rfl) (fun _ _ _ h => h) rfl hY2 (v := ?_) (fun w' hS => by skip; go_simp; try with_reducible rfl) ?_
          simp only [Act.put, List.setIfInBounds_toArray, List.set_cons_zero, List.set_cons_succ]
          refine held_take 13 (some 23) rfl rfl (by kernel_rfl) (by kernel_rfl) (by kernel_rfl) (fun _ _ _ h => h) rfl hY2 (v := ?_) (fun w' hS => by skip; go_simp; try with_reducible rfl) ?_
          simp only [Act.put, List.setIfInBounds_toArray, List.set_cons_zero, List.set_cons_succ]
          refine held_take 14 (some 24) rfl rfl (by kernel_rfl) (by kernel_rfl) (by kernel_rfl) (fun _ _ _ h => h) rfl hY2 (v := .int .i64 s) (fun w' hS => by have ck1 := hS.cellNew CK.out; go_simp; try with_reducible rfl) ?_
          simp only [Act.put, List.setIfInBounds_toArray, List.set_cons_zero, List.set_cons_succ]
          refine held_take 15 (some 25) rfl rfl (by kernel_rfl) (by kernel_rfl) (by kernel_rfl) (fun _ _ _ h => h) rfl hY2 (v := ?_) (fun w' hS => by skip; go_simp; try with_reducible rfl) ?_
          simp only [Act.put, List.setIfInBounds_toArray, List.set_cons_zero, List.set_cons_succ]
          refine held_only 16 (by kernel_rfl) rfl rfl (fun K3 hK3 => ?_)
          go_simp
          refine (bitW_any s i _ (by omega) (by omega)).mono ?_
          rintro e w' ⟨rfl, rfl⟩
          rw [HB.out]
          have hnb := Chg.refl (fun _ => False) wz.drew
          refine hK3.out _ _ (hY2.trans hnb) (fun hY3 => ?_)
          clear hK3 K3
          refine held_take 17 (some 27) rfl rfl (by kernel_rfl) (by kernel_rfl) (by kernel_rfl) (fun _ _ _ h => h) rfl hY3 (v := .bool true) (fun w' hS => by skip; go_simp; try (first | (with_reducible rfl) | (simp; done))) ?_
          simp only [Act.put, List.setIfInBounds_toArray, List.set_cons_zero, List.set_cons_succ]
          refine held_take 18 (some 28) rfl rfl (by kernel_rfl) (by kernel_rfl) (by kernel_rfl) (fun _ _ _ h => h) rfl hY3 (v := .bool true) (fun w' hS => by skip; go_simp; try (first | (with_reducible rfl) | (simp; done))) ?_
          simp only [Act.put, List.setIfInBounds_toArray, List.set_cons_zero, List.set_cons_succ]
          refine wpAnyH_done (by kernel_rfl) ?_ _
          clear hQ
          go_wp2_with fail
          go_ret
          exact ⟨⟨false, rfl, ⟨(fun h => by cases h), fun h => by have h9 := ((HI.out.1 h).2 i hin).2; rw [HSN.out, HB.out] at h9; cases h9⟩⟩, HD.out.2.trans hY3⟩
    · obtain rfl : i = n := by omega
      obtain ⟨b, hb⟩ : ∃ b, b = inB (i : Int) 1 4 := ⟨_, rfl⟩
      have HB := Lib.hid hb
      clear hb
      go_wp2_with (go_at_call 43; refine (inRange_any _ _ _ _).mono ?_; rintro e w' ⟨rfl, rfl⟩; rw [← HB.out])
      go_ret
      exact ⟨⟨b, rfl, ⟨fun h => HI.out.2 ⟨HB.out ▸ h, HD.out.1⟩, fun h => HB.out.trans (HI.out.1 h).1⟩⟩, HD.out.2⟩

/-- The least rank, or none. -/
def SendsR (has : List Int) (x : Int) : Prop := (HintsOk has → x = (fitsF has has.length has.length [] : Nat)) ∧ (¬ HintsOk has → x = -1)
theorem SendsR.unique {has : List Int} {x y : Int} (h : SendsR has x) (h' : SendsR has y) : x = y := by
  by_cases c : HintsOk has
  · rw [h.1 c, h'.1 c]
  · rw [h.2 c, h'.2 c]

theorem OwnR.pushA {w1 w2 : World} {v v' u : Value} {vs : List Value} {rows : List (List Int)} {xs : List Int}
    (h : OwnR w1 23 3 v vs rows) (hu : Own w1 3 u (xs.map (Value.int .i64))) (ha : ∀ i, i < rows.length → Apart (gv vs i) u) (hvu : Apart u v)
    (hv' : Own w2 23 v' (vs ++ [u])) (h2 : Chg (fun k => v.ownBlock = some k) w1 w2) : OwnR w2 23 3 v' (vs ++ [u]) (rows ++ [xs]) :=
  OwnR.snoc hv' h.len (fun i hi => (h.inner i hi).chg h2 (fun g hg hs => h.outer_apart (by decide) hi g hs hg)) h.apart (hu.chg h2 (fun g hg hs => hvu g hg hs)) ha
set_option maxRecDepth 100000 in
set_option maxHeartbeats 4000000 in
theorem fitsFrom_any (has : List Int) (hh : HintsOk has) : ∀ (d : Nat) (vh vr : Value) (rows : List (List Int)) (w : World), IsI w vh has → IsR w vr rows → rows.length + d = has.length → GoodRows ((2 : Nat) : Int) has.length rows →
    Calls Try.prog 74 #[vh, vr] w fun e w' => e = .returned (.int .i64 (fitsF has has.length d rows : Nat)) ∧ New w w' := by
  intro d
  induction d with
  | zero =>
    intro vh vr rows w hx hr hlen hg
    obtain ⟨ao, n, cap, rfl, HN, hn⟩ := hx.shape
    obtain ⟨ar, m, car, rfl, HM, hm⟩ := hr.shape
    obtain rfl : m = n := by rw [HM.out, HN.out]; omega
    have hm1 : 1 ≤ m := by rw [HN.out]; exact hh.n1
    have hm4 : m ≤ 4 := by rw [HN.out]; exact hh.n4
    have HR := Lib.hid (And.intro hr hg)
    clear hx hr hg hlen
    go_enter Try.func74, Try.ntmps74
    go_wp2_with fail
    refine (reduce_any 2 pr2 has.length (by rw [← HN.out]; omega) _ rows _ HR.out.1 HR.out.2 (by rw [← HM.out]; omega)).mono ?_
    rintro e w2 ⟨u, vs, out, rfl, ho, hf, hred, hn2⟩
    have hle : out.length ≤ has.length := hred.le_cols
    obtain ⟨a, l, c, rfl, HL, hl, _⟩ := ho.outer.opened (by rw [ho.len]; unfold Mid; rw [← HN.out] at hle; omega)
    have HO := Lib.hid (And.intro ho (And.intro hred hn2))
    clear ho hf hred hn2 hle
    go_wp2_with fail
    go_ret
    exact ⟨ret_int (by rw [HL.out, HO.out.1.len]; exact congrArg _ (red_rk2 HO.out.2.1)), HO.out.2.2⟩
  | succ d ih =>
    intro vh vr rows w hx hr hlen hg
    obtain ⟨ao, n, cap, rfl, HN, hn⟩ := hx.shape
    obtain ⟨ar, m, car, rfl, HM, hm⟩ := hr.shape
    have hmn : m < n := by rw [HM.out, HN.out]; omega
    have hn4 : n ≤ 4 := by rw [HN.out]; exact hh.n4
    have hmb : m < has.length := by rw [← HN.out]; exact hmn
    obtain ⟨b, o, rfl, ck0⟩ := hx.at hmn
    have hxv := hh.val hmb
    have hxl := hh.lt hmb
    obtain ⟨x, hxe⟩ : ∃ x, x = hN has m := ⟨_, rfl⟩
    rw [hxv, ← hxe] at ck0
    rw [← hxe] at hxl
    have h16 : 2 ^ n ≤ 16 := two_pow_le (m := n) (n := 4) hn4
    have hp0 := Nat.two_pow_pos n
    rw [← HN.out] at hxl
    obtain ⟨N, hNN⟩ : ∃ N, N = 2 ^ n := ⟨_, rfl⟩
    rw [← hNN] at hxl h16 hp0
    have HX := Lib.hid (And.intro hx (And.intro hr (And.intro hg (And.intro hxe (And.intro hNN hlen)))))
    have CK0 := Lib.hid ck0
    have HIH := Lib.hid ih
    have hdm : ((m : Int) == (n : Int)) = false := by simp; omega
    clear hx hr hg hxe hNN hxv hlen ih ck0
    obtain ⟨f, hf⟩ : ∃ f : Nat → Nat, f = fun s => fitsF has has.length d (rows ++ [hrow has.length s rows.length]) := ⟨_, rfl⟩
    have HF := Lib.hid hf
    clear hf
    go_enter Try.func74, Try.ntmps74
    go_wp2_with fail
    clear hdm
    go_loopw [6, 7] (fun t6 t7 wr => ∃ (s best : Nat), t6 = .int .i64 best ∧ t7 = .int .i64 s ∧ s ≤ N ∧ best ≤ n ∧ Hid (best = minTo f (mayB has m) n s ∧ New w wr)) (fun _ t7 _ => N - (intOf t7).toNat)
    case atStart => exact ⟨0, n, rfl, rfl, Nat.zero_le _, Nat.le_refl _, rfl, Chg.refl _ _⟩
    case round =>
      obtain ⟨s, best, rfl, rfl, hs, hbn, HD⟩ := hrel
      obtain ⟨wo, hwo⟩ : ∃ wo : World, wo = wr := ⟨_, rfl⟩
      rw [← hwo] at HD
      rw [← hwo]
      clear hwo
      have ck := HD.out.2.cellNew CK0.out
      by_cases hsN : s < N
      · have hand := and_i64 s (by omega) x (by omega)
        obtain ⟨y, hy⟩ : ∃ y, y = s &&& x := ⟨_, rfl⟩
        rw [← hy] at hand
        have HY := Lib.hid hy
        clear hy
        by_cases hys : y = s
        · subst hys
          have hmay : mayB has m y = true := mayB_iff.2 (by rw [← HX.out.2.2.2.1]; exact HY.out.symm)
          have HMY := Lib.hid hmay
          clear hmay
          go_wp2_with (go_at_call 62; refine (power_any n _ (by omega)).mono ?_; rintro e w' ⟨rfl, rfl⟩; rw [← HX.out.2.2.2.2.1])
          clear hand ck
          have hpm : 2 ^ m ≤ 8 := two_pow_le (m := m) (n := 3) (by omega)
          obtain ⟨pm, hpe⟩ : ∃ pm, pm = 2 ^ m := ⟨_, rfl⟩
          rw [← hpe] at hpm
          have hor := or_i64 y (by omega) pm (by omega)
          have holt : y ||| pm < 16 := Nat.or_lt_two_pow (n := 4) (by omega) (by omega)
          obtain ⟨z, hz⟩ : ∃ z, z = y ||| pm := ⟨_, rfl⟩
          rw [← hz] at hor holt
          have HPE := Lib.hid (And.intro hpe hz)
          clear hpe hz
          go_loopw [8, 9] (fun t8 t9 wr => ∃ k : Nat, t9 = .int .i64 k ∧ k ≤ n ∧ Hid (Own wr 3 t8 ((tab k (fun j => (bitN z j : Int))).map (Value.int .i64)) ∧ From wo.heap.size t8 ∧ New wo wr)) (fun _ t9 _ => n - (intOf t9).toNat)
          case atStart => exact ⟨0, rfl, Nat.zero_le _, Own.empty _ _, From.new _ _ _, New.alloc _ _⟩
          case round =>
            obtain ⟨k, rfl, hk, HQ⟩ := hrel
            obtain ⟨wy, hwy⟩ : ∃ wy : World, wy = wr := ⟨_, rfl⟩
            rw [← hwy] at HQ
            rw [← hwy]
            clear hwy
            have hrl' : ((tab k (fun j => (bitN z j : Int))).map (Value.int .i64)).length + 1 ≤ 1099511627776 := by rw [List.length_map, tab_length]; omega
            obtain ⟨a9, l9, c9, rfl, HL9, _, _⟩ := HQ.out.1.opened (by rw [List.length_map, tab_length]; unfold Mid; omega)
            by_cases hkn : k < n
            · go_wp2_with (first
                | (go_at_call 62; refine (power_any m _ (by omega)).mono ?_; rintro e w' ⟨rfl, rfl⟩; rw [← HPE.out.1])
                | (go_at_call 67; refine (bit_any z k _ (by omega) (by omega)).mono ?_; rintro e w' ⟨rfl, rfl⟩)
                | (at_builtin; refine wpList_app1 rfl _ _ _ rfl tyInt _ HQ.out.1 rfl _ _ rfl rfl rfl hrl' ?_; intro v2 w6 k1 k2 k3; have K2 := Lib.hid (And.intro k1 (And.intro k2 k3)); clear k1 k2 k3))
              go_roundw
              case rel =>
                obtain ⟨k1, k2, k3⟩ := K2.out
                exact ⟨k + 1, by go_num, by omega, by rw [tab_succ, List.map_append]; exact k1, (fun g hg => by
                  rcases k3 g hg with x | x
                  · exact HQ.out.2.1 g x
                  · exact Nat.le_trans HQ.out.2.2.size x), HQ.out.2.2.then k2 (fun i hi => HQ.out.2.1 i hi)⟩
              case measure => simp [intOf]; omega
            · obtain rfl : k = n := by omega
              have hrw : tab k (fun j => (bitN z j : Int)) = hrow has.length y rows.length := by
                rw [HPE.out.2, HPE.out.1, HN.out, HM.out]; rfl
              have hrowI := HQ.out.1.isI (by rw [tab_length]; unfold Mid; omega)
              rw [hrw] at hrowI
              have HRW := Lib.hid (And.intro hrowI hrw)
              have HNW := Lib.hid (HD.out.2.trans HQ.out.2.2)
              clear hrw hrowI hor
              go_wp2_with fail
              refine (copyRows_any _ rows _ (HX.out.2.1.new HNW.out)).mono ?_
              rintro e w3 ⟨u3, vs3, rfl, ho3, hf3, hn3⟩
              have hl3 : vs3.length = rows.length := ho3.len
              have hlv : vs3.length + 1 ≤ 1099511627776 := by rw [hl3, ← HM.out]; omega
              obtain ⟨a3, l3, c3, rfl, _, _, _⟩ := ho3.outer.opened (by rw [hl3, ← HM.out]; unfold Mid; omega)
              have HO3 := Lib.hid (And.intro ho3 (And.intro hf3 hn3))
              clear ho3 hf3 hn3 hl3
              go_wp2_with (at_builtin; refine wpList_app1 rfl _ _ _ rfl tyRow w3 HO3.out.1.outer rfl _ _ rfl rfl rfl hlv ?_; intro v4 w4 k1 k2 k3; have K2 := Lib.hid (And.intro k1 (And.intro k2 k3)); clear k1 k2 k3)
              obtain ⟨m1, m2, m3⟩ := K2.out
              have hru := HQ.out.1.new HO3.out.2.2
              rw [HRW.out.2] at hru
              have hpush := OwnR.pushA HO3.out.1 hru (fun i hi g hg hg' => by have := HO3.out.2.1.2 i hi g hg; have := HQ.out.1.lt hg'; omega) (fun g hg hg' => by have := HO3.out.2.1.1 g hg'; have := HQ.out.1.lt hg; omega) m1 m2
              have hir := hpush.isR (by rw [List.length_append, List.length_singleton, ← HM.out]; unfold Mid; omega) (fun i hi => by
                rw [List.length_append, List.length_singleton] at hi
                by_cases e : i < rows.length
                · rw [gr_snoc_lt e, (HX.out.2.2.1 i e).1, ← HN.out]; unfold Mid; omega
                · rw [gr_snoc_eq (by omega), hrow_length, ← HN.out]; unfold Mid; omega)
              have hnw4 : New wo w4 := (HQ.out.2.2.trans HO3.out.2.2).then m2 (fun g hg => by have := HO3.out.2.1.1 g hg; have := HQ.out.2.2.size; omega)
              have H4 := Lib.hid (And.intro hir (HD.out.2.trans hnw4))
              have hlen4 : (rows ++ [hrow has.length y rows.length]).length + d = has.length := by have := HX.out.2.2.2.2.2; rw [List.length_append, List.length_singleton]; omega
              have hg4 : GoodRows ((2 : Nat) : Int) has.length (rows ++ [hrow has.length y rows.length]) := fun i hi => by
                rw [List.length_append, List.length_singleton] at hi
                by_cases e : i < rows.length
                · rw [gr_snoc_lt e]; exact HX.out.2.2.1 i e
                · rw [gr_snoc_eq (by omega)]; exact hrow_good _ _ _
              have HG4 := Lib.hid (And.intro hlen4 hg4)
              clear m1 m2 m3 hru hpush hir hnw4 hlen4 hg4
              go_wp2_with fail
              refine (HIH.out _ _ _ w4 (HX.out.1.new H4.out.2) H4.out.1 HG4.out.1 HG4.out.2).mono ?_
              rintro e w5 ⟨rfl, hn5⟩
              obtain ⟨c, hc⟩ : ∃ c, c = fitsF has has.length d (rows ++ [hrow has.length y rows.length]) := ⟨_, rfl⟩
              rw [← hc]
              have HC := Lib.hid (show f y = c by rw [hc, HF.out])
              have HN5 := Lib.hid (H4.out.2.trans hn5)
              clear hc hn5
              rcases Nat.lt_or_ge c best with hcb | hcb
              · go_wp2_with fail
                go_roundw
                case rel => exact ⟨y + 1, c, by first | rfl | (apply val_int; first | rfl | (split <;> omega)), by go_num, by omega, by omega, by rw [minTo, if_pos HMY.out, ← HD.out.1, HC.out]; omega, HN5.out⟩
                case measure => simp [intOf]; omega
              · go_wp2_with fail
                go_roundw
                case rel => exact ⟨y + 1, best, by first | rfl | (apply val_int; first | rfl | (split <;> omega)), by go_num, by omega, hbn, by rw [minTo, if_pos HMY.out, ← HD.out.1, HC.out]; omega, HN5.out⟩
                case measure => simp [intOf]; omega
        · have hd : ((y : Int) != (s : Int)) = true := by simp; omega
          have hmay : ¬ mayB has m s = true := fun h => hys (by rw [HY.out, HX.out.2.2.2.1]; exact mayB_iff.1 h)
          have HMY := Lib.hid hmay
          clear hmay hys
          go_wp2_with (go_at_call 62; refine (power_any n _ (by omega)).mono ?_; rintro e w' ⟨rfl, rfl⟩; rw [← HX.out.2.2.2.2.1])
          go_roundw
          case rel => exact ⟨s + 1, best, rfl, by go_num, by omega, hbn, by rw [minTo, if_neg HMY.out]; exact HD.out.1, HD.out.2⟩
          case measure => simp [intOf]; omega
      · obtain rfl : s = N := by omega
        go_wp2_with (go_at_call 62; refine (power_any n _ (by omega)).mono ?_; rintro e w' ⟨rfl, rfl⟩; rw [← HX.out.2.2.2.2.1])
        go_ret
        exact ⟨ret_int (by rw [HD.out.1, HX.out.2.2.2.2.1, HN.out, HM.out, HF.out]; rfl), HD.out.2⟩
end Go.Proofs.Ytahgjfmdafhedaa
