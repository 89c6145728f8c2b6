/- The generator of hints. -/
import Derived.Deep.CutBlock
import Derived.Deep.DeepCutAuto
import Derived.Test.YtahgjfmdafhedaaGenT
import Derived.Test.YtahgjfmdafhedaaKnow
import Derived.Test.YtahgjfmdafhedaaBitL
import Derived.Test.YtahgjfmdafhedaaRead
import Derived.Test.YtahgjfmdafhedaaDrawT
namespace Go.Proofs.Ytahgjfmdafhedaa
open Go.RowKit Mat
set_option linter.unusedVariables false

set_option maxRecDepth 100000 in
set_option maxHeartbeats 2000000 in
theorem someHints_any (g N : Nat) (w : World) (hr : Rd w g N) (hN : N ≤ 900000) :
    Calls Try.prog 78 #[.pointer (some ⟨g, 0, none⟩)] w fun e w' => PicksI g (N + 20) w e w' (fun xs => xs.length ≤ 4) := by
  have hg := hr.lt
  have HR := Lib.hid hr
  have HG := Lib.hid hg
  clear hr hg
  have hn0 := New.alloc w (.cells #[] 3)
  have hown0 := Own.empty w 3
  obtain ⟨w0, hw0⟩ : ∃ w0, w0 = w.alloc (.cells #[] 3) := ⟨_, rfl⟩
  rw [← hw0] at hn0 hown0
  have H0 := Lib.hid (And.intro hn0 hown0)
  clear hn0 hown0
  go_enter Try.func78, Try.ntmps78
  go_upto_region 2 with fail
  rw [← hw0]
  clear hw0
  go_wp2_with fail
  refine (one_lit g N (fun x => 1 ≤ x ∧ x ≤ 4) [3, 4, 2, 4, 1] _ _ _ _ rfl rfl (HR.out.new H0.out.1) (by omega) (by simp) (by simp) (by simp)).mono ?_
  rintro e w1 ⟨x, rfl, hx, hr1, hc1⟩
  obtain ⟨n, rfl⟩ : ∃ n : Nat, x = n := ⟨x.toNat, by omega⟩
  have hn1 : 1 ≤ n := by omega
  have hn4 : n ≤ 4 := by omega
  have hown1 := H0.out.2.chg hc1 (fun g' h e => by simp [Value.ownBlock] at h; have := HG.out; omega)
  have H1 := Lib.hid (And.intro hr1 (And.intro hown1 (Chg.trans H0.out.1 hc1 (fun _ _ x => x.elim) (fun _ _ x => x) : Chg (· = g) w w1)))
  have h16 : 2 ^ n ≤ 16 := two_pow_le (m := n) (n := 4) hn4
  have hp0 := Nat.two_pow_pos n
  obtain ⟨M, hM⟩ : ∃ M, M = 2 ^ n := ⟨_, rfl⟩
  rw [← hM] at h16 hp0
  have HM := Lib.hid hM
  clear hr1 hc1 hown1 hx hM
  go_wp2_with fail
  go_loopw [3, 5] (fun t3 t5 wr => ∃ (i : Nat) (xs : List Int), t5 = .int .i64 i ∧ i ≤ n ∧ xs.length = i ∧ Own wr 3 t3 (xs.map (Value.int .i64)) ∧ From w.heap.size t3 ∧ Hid (Rd wr g (N + 1 + i) ∧ Chg (· = g) w wr)) (fun _ t5 _ => n - (intOf t5).toNat)
  case atStart => exact ⟨0, [], rfl, Nat.zero_le _, rfl, H1.out.2.1, From.new _ _ _, H1.out.1, H1.out.2.2⟩
  case round =>
    obtain ⟨i, xs, rfl, hi, hxl, hown, hfrom, HD⟩ := hrel
    obtain ⟨wz, hwz⟩ : ∃ wz : World, wz = wr := ⟨_, rfl⟩
    rw [← hwz] at hown HD
    rw [← hwz]
    clear hwz
    obtain ⟨a, l, c, rfl, HL, hl, _⟩ := hown.opened (by rw [List.length_map]; unfold Mid; omega)
    have hli : l = i := by rw [HL.out, List.length_map, hxl]
    subst hli
    have HX := Lib.hid hxl
    have HO := Lib.hid (And.intro hown hfrom)
    clear hown hfrom hxl
    have hnotg : ∀ g', (Value.slice a l c).ownBlock = some g' → ¬ g' = g := fun g' h e => by have := HO.out.2 g' h; have := HG.out; omega
    have HNG := Lib.hid hnotg
    clear hnotg
    by_cases hln : l < n
    · have hpl : 2 ^ l ≤ 8 := two_pow_le (m := l) (n := 3) (by omega)
      have hpl2 : 2 ^ (l + 1) ≤ M := by rw [HM.out]; exact two_pow_le (by omega)
      rw [Nat.pow_succ] at hpl2
      have hpl0 := Nat.two_pow_pos l
      obtain ⟨P, hP⟩ : ∃ P, P = 2 ^ l := ⟨_, rfl⟩
      rw [← hP] at hpl hpl2 hpl0
      have HP := Lib.hid hP
      obtain ⟨m, hm⟩ : ∃ m, m = M - 1 - P := ⟨_, rfl⟩
      have hmi : (M : Int) - 1 - (P : Int) = (m : Int) := by omega
      have hm16 : m < 16 := by omega
      clear hP hm
      go_wp2_with (first | (go_at_call 62; with_reducible refine (power_any n _ (by omega)).mono ?_; rintro e w' ⟨rfl, rfl⟩; rw [← HM.out]))
      refine (pick_any g (N + 1 + l) (M : Int) _ HD.out.1 (by omega) (by omega)).mono ?_
      rintro e w2 ⟨x, rfl, hx, hr2, hc2⟩
      have hxM := hx.2.1 (by omega)
      obtain ⟨y, rfl⟩ : ∃ y : Nat, x = y := ⟨x.toNat, by have := hx.1; omega⟩
      have hyM : y < M := by omega
      have hand := and_i64 y (by omega) m (by omega)
      have H2 := Lib.hid (And.intro hr2 (And.intro (Chg.trans HD.out.2 hc2 (fun _ _ x => x) (fun _ _ x => x)) (HO.out.1.chg hc2 (fun g' h e => HNG.out g' h e))))
      clear hr2 hc2 hx hxM
      go_wp2_with (first
        | (go_at_call 62; with_reducible refine (power_any n _ (by omega)).mono ?_; rintro e w' ⟨rfl, rfl⟩; rw [← HM.out])
        | (go_at_call 62; with_reducible refine (power_any l _ (by omega)).mono ?_; rintro e w' ⟨rfl, rfl⟩; rw [← HP.out])
        | (at_builtin; refine wpList_app1 rfl _ _ _ rfl tyInt w2 H2.out.2.2 rfl _ _ rfl rfl rfl (by rw [List.length_map, HX.out]; omega) ?_; intro v3 w3 k1 k2 k3; obtain ⟨a2, l2, c2, rfl, HL2, hl2, _⟩ := k1.opened (by rw [List.length_append, List.length_map, HX.out]; unfold Mid; simp; omega); have K2 := Lib.hid (And.intro k1 (And.intro k2 k3)); clear k1 k2 k3))
      obtain rfl : l2 = l + 1 := by rw [HL2.out, List.length_append, List.length_map, HX.out]; rfl
      obtain ⟨m1, m2, m3, m4⟩ := grow1 HG.out HO.out.2 H2.out.1 H2.out.2.1 K2.out.1 K2.out.2.1 K2.out.2.2
      have hnum : xs ++ [((y &&& m : Nat) : Int)] = xs ++ [((y &&& m : Nat) : Int)] := rfl
      go_roundw
      case rel => exact ⟨l + 1, _, by go_num, by omega, by rw [List.length_append, HX.out]; rfl, m1, m2, m3, m4⟩
      case measure => simp [intOf]; omega
    · obtain rfl : l = n := by omega
      go_wp2_with fail
      refine (pick_any g (N + 1 + l) 24 _ HD.out.1 (by omega) (by omega)).mono ?_
      rintro e w2 ⟨x, rfl, -, hr2, hc2⟩
      have H2 := Lib.hid (And.intro hr2 (And.intro (Chg.trans HD.out.2 hc2 (fun _ _ x => x) (fun _ _ x => x)) (HO.out.1.chg hc2 (fun g' h e => HNG.out g' h e))))
      clear hr2 hc2
      by_cases hx0 : x = 0
      · subst hx0
        obtain ⟨gb, rfl⟩ := HO.out.1.head (i := 0) (by rw [List.length_map, HX.out]; omega)
        go_wp2_with (go_at_call 62; refine (power_any l _ (by omega)).mono ?_; rintro e w' ⟨rfl, rfl⟩; rw [← HM.out])
        refine (one_lit g (N + 1 + l + 1) (fun _ => True) [1, -1, (M : Int)] _ _ _ _ rfl rfl H2.out.1 (by omega) (by simp) (by simp) (fun _ _ => trivial)).mono ?_
        rintro e w3 ⟨y, rfl, -, hr3, hc3⟩
        have ho2 := H2.out.2.2.chg hc3 (fun g' h e => HNG.out g' h e)
        obtain ⟨cl, fl⟩ := ho2.cell (i := 0) (by rw [List.length_map, HX.out]; omega)
        have H3 := Lib.hid (And.intro hr3 (And.intro (Chg.trans H2.out.2.1 hc3 (fun _ _ x => x) (fun _ _ x => x)) ho2))
        clear hr3 hc3 ho2
        go_wp2_with fail
        go_ret
        have hgb : w.heap.size ≤ gb := HO.out.2 gb rfl
        have hst := H3.out.2.2.set 0 (.int .i64 y)
        rw [set_map_int] at hst
        exact ⟨_, xs.set 0 y, rfl, hst, HO.out.2, (show (xs.set 0 y).length ≤ 4 by rw [List.length_set, HX.out]; omega), (H3.out.1.chg (Chg.setCell w3 ⟨gb, 0, none⟩ _) (fun k hk => by have := HG.out; simp at hk; omega)).mono (by omega), Chg.trans H3.out.2.1 (Chg.setCell w3 ⟨gb, 0, none⟩ _) (fun _ _ x => x) (fun i hi h => by simp at h; omega)⟩
      · have hd0 : (x == 0) = false := by simp; omega
        by_cases hx1 : x = 1
        · subst hx1
          go_wp2_with fail
          go_ret
          exact ⟨_, [], rfl, Own.empty _ _, (fun g' hg' => by simp [Value.ownBlock] at hg'; have := H2.out.2.1.size; omega), by simp, (H2.out.1.new (New.alloc _ _)).mono (by omega), Chg.trans H2.out.2.1 (New.alloc _ _) (fun _ _ x => x) (fun _ _ x => x.elim)⟩
        · have hd1 : (x == 1) = false := by simp; omega
          go_wp2_with fail
          go_ret
          exact ⟨_, xs, rfl, H2.out.2.2, HO.out.2, (show xs.length ≤ 4 by rw [HX.out]; omega), H2.out.1.mono (by omega), H2.out.2.1⟩

/-- It ends with a list. -/
def DrawsH (w : World) (e : Ending) (w' : World) : Prop := ∃ u xs, e = .returned u ∧ IsI w' u xs ∧ New w w'
theorem drawLeastSends_any (v : Value) (n : Nat) (w : World) (hb : RawB w v n) :
    Calls Try.prog 28 #[v] w fun e w' => DrawsH w e w' := by
  obtain ⟨ao, cap, rfl, -⟩ := id hb
  have HB := Lib.hid hb
  clear hb
  go_enter Try.func28, Try.ntmps28
  go_wp2_with fail
  refine (newReader_any _ _ _ HB.out).mono ?_
  rintro e w1 ⟨rfl, hr1, hn1⟩
  have H1 := Lib.hid (And.intro hr1 hn1)
  clear hr1 hn1
  go_wp2_with fail
  refine (someHints_any w.heap.size 0 _ H1.out.1 (by omega)).mono ?_
  rintro e w2 ⟨u, xs, rfl, ho, hf, hl, hr2, hc2⟩
  have H2 := Lib.hid (And.intro (ho.isI (by unfold Mid; omega)) (H1.out.2.then hc2 (fun k hk => Nat.le_of_eq hk.symm)))
  clear ho hf hr2 hc2
  go_wp2_with fail
  go_ret
  exact ⟨u, xs, rfl, H2.out.1, H2.out.2⟩
end Go.Proofs.Ytahgjfmdafhedaa
