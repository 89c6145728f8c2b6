/- Loops and cliques of hints: the program's. -/
import Derived.Test.YtahgjfmdafhedaaHintI
namespace Go.Proofs.Ytahgjfmdafhedaa
open Go.RowKit Mat
set_option linter.unusedVariables false

/-- It tells, and if it says yes, all of the set can be taken away. -/
def ElimS (has : List Int) (n s : Nat) (e : Ending) : Prop := ∃ b : Bool, e = .returned (.bool b) ∧ (b = true → Elim has n s)
theorem wo_lower : ∀ s : Nat, s < 16 → ∀ i : Nat, i < 4 → bitN s i = 1 → wo s (2 ^ i) < s := by decide +kernel
theorem and_swap (a b : Nat) : a &&& b = b &&& a := Nat.and_comm a b

set_option maxRecDepth 100000 in
set_option maxHeartbeats 2000000 in
theorem loopless_any (has : List Int) (hh : HintsOk has) (vh : Value) (s : Nat) (w : World) (hx : IsI w vh has) (hs : s < 2 ^ has.length) :
    Calls Try.prog 79 #[vh, .int .i64 s] w fun e w' => ElimS has has.length s e ∧ w = w' := by
  obtain ⟨ao, n, cap, rfl, HN, hn⟩ := hx.shape
  have hn4 : n ≤ 4 := by rw [HN.out]; exact hh.n4
  have h16 : 2 ^ has.length ≤ 16 := two_pow_le (m := has.length) (n := 4) hh.n4
  have hs16 : s < 16 := by omega
  have HX := Lib.hid hx
  clear hx hs h16
  go_enter Try.func79, Try.ntmps79
  go_wp2_with fail
  go_loop [1, 5] (fun t1 t5 => ∃ (cur : Nat) (b : Bool), t1 = .int .i64 cur ∧ t5 = .bool b ∧ cur ≤ s ∧ Hid (Elim has has.length cur → Elim has has.length s)) (fun t1 t5 => (intOf t1).toNat + (match t5 with | .bool true => 1 | _ => 0))
  case atStart => exact ⟨s, true, rfl, rfl, Nat.le_refl _, fun h => h⟩
  case round =>
    obtain ⟨cur, b, rfl, rfl, hcs, HE⟩ := hrel
    cases b with
    | false =>
      by_cases hc0 : cur = 0
      · subst hc0
        go_wp2_with fail
        go_ret
        exact ⟨⟨true, rfl, fun _ => HE.out .zero⟩, rfl⟩
      · have hd : ((cur : Int) == 0) = false := by simp; omega
        go_wp2_with fail
        go_ret
        exact ⟨⟨false, rfl, fun h => by cases h⟩, rfl⟩
    | true =>
      go_wp2_with fail
      go_loop [1, 5, 11] (fun t1 t5 t11 => ∃ (c : Nat) (b : Bool) (i : Nat), t1 = .int .i64 c ∧ t5 = .bool b ∧ t11 = .int .i64 i ∧ i ≤ n ∧ c ≤ cur ∧ Hid ((b = false → c = cur) ∧ (b = true → c < cur) ∧ (Elim has has.length c → Elim has has.length s))) (fun _ _ t11 => n - (intOf t11).toNat)
      case atStart => exact ⟨cur, false, 0, rfl, rfl, rfl, Nat.zero_le _, Nat.le_refl _, fun _ => rfl, (fun h => by cases h), HE.out⟩
      case round =>
        obtain ⟨c, b, i, rfl, rfl, rfl, hi, hcc, HF⟩ := hrel
        by_cases hin : i < n
        · obtain ⟨bb, oo, rfl, ck⟩ := HX.out.at hin
          have hib : i < has.length := by rw [← HN.out]; exact hin
          have hl := hh.lt hib
          have h16 : 2 ^ has.length ≤ 16 := two_pow_le (m := has.length) (n := 4) hh.n4
          rw [hh.val hib] at ck
          obtain ⟨x, hx⟩ : ∃ x, x = hN has i := ⟨_, rfl⟩
          rw [← hx] at ck hl
          have hx16 : x < 16 := by omega
          have hbit := bits_bit c (by omega) i (by omega)
          have HXX := Lib.hid (And.intro hx hib)
          clear hx hl h16 hib
          rcases bit_vals c i with hb | hb
          · rw [hb] at hbit
            go_wp2_with fail
            go_round
            case rel => exact ⟨c, b, i + 1, rfl, rfl, by go_num, by omega, hcc, HF.out⟩
            case measure => simp [intOf]; omega
          · rw [hb] at hbit
            have HB := Lib.hid hb
            clear hb
            have hand := and_i64 x (by omega) c (by omega)
            obtain ⟨y, hy⟩ : ∃ y, y = x &&& c := ⟨_, rfl⟩
            rw [← hy] at hand
            have HY := Lib.hid hy
            clear hy
            by_cases hy0 : y = 0
            · subst hy0
              have hpi : 2 ^ i ≤ 8 := two_pow_le (m := i) (n := 3) (by omega)
              have hwi := wrap_pow i (by omega)
              have hless := wo_lower c (by omega) i (by omega) HB.out
              obtain ⟨pm, hpe⟩ : ∃ pm, pm = 2 ^ i := ⟨_, rfl⟩
              rw [← hpe] at hpi hwi hless
              have hano := andNot_i64 c (by omega) pm (by omega)
              obtain ⟨z, hz⟩ : ∃ z, z = wo c pm := ⟨_, rfl⟩
              rw [← hz] at hano hless
              have HZ := Lib.hid (show z = wo c (2 ^ i) by rw [hz, hpe])
              clear hpe hz
              go_wp2_with fail
              go_round
              case rel => exact ⟨z, true, i + 1, rfl, rfl, by go_num, by omega, by omega, (fun h => by cases h), (fun _ => by omega), fun h => HF.out.2.2 (.step (i := i) HXX.out.2 HB.out (by rw [← HXX.out.1]; exact HY.out.symm) (by rw [← HZ.out]; exact h))⟩
              case measure => simp [intOf]; omega
            · have hd : ((y : Int) == 0) = false := by simp; omega
              go_wp2_with fail
              go_round
              case rel => exact ⟨c, b, i + 1, rfl, rfl, by go_num, by omega, hcc, HF.out⟩
              case measure => simp [intOf]; omega
        · obtain rfl : i = n := by omega
          go_wp2_with fail
          go_round
          case rel => exact ⟨c, b, rfl, rfl, by omega, HF.out.2.2⟩
          case measure =>
            obtain ⟨f1, f2, _⟩ := HF.out
            cases b with
            | false => have := f1 rfl; simp [intOf]; omega
            | true => have := f2 rfl; simp [intOf]; omega

/-- It ends with the size of a set that can be taken away. -/
def LoopR (has : List Int) (x : Int) : Prop := HintsOk has → ∃ s, s < 2 ^ has.length ∧ Elim has has.length s ∧ x = wtN s has.length
theorem wt_7 : ∀ n : Nat, n < 5 → ∀ s : Nat, s < 2 ^ n → wtN s 7 = wtN s n := by decide +kernel
set_option maxRecDepth 100000 in
set_option maxHeartbeats 2000000 in
theorem looplessOf_any (v : Value) (has : List Int) (w : World) (hx : IsI w v has) :
    Calls Try.prog 29 #[v] w fun e w' => TellsN w e w' (LoopR has) := by
  obtain ⟨ao, n, cap, rfl, HN, hn⟩ := hx.shape
  have HX := Lib.hid hx
  clear hx
  go_enter Try.func29, Try.ntmps29
  go_wp2_with fail
  refine (hintsOk_any _ has _ HX.out).mono ?_
  rintro e w' ⟨⟨b, rfl, hb⟩, rfl⟩
  cases b with
  | false =>
    have HNO : Hid (¬ HintsOk has) := fun h => by have := hb.2 h; cases this
    clear hb
    go_wp2_with fail
    go_ret
    exact ⟨-1, rfl, fun h => absurd h HNO.out, Chg.refl _ _⟩
  | true =>
    have hh := hb.1 rfl
    have hn4 : n ≤ 4 := by rw [HN.out]; exact hh.n4
    have hw12 := wrap_pow n (by omega)
    have h16 : 2 ^ n ≤ 16 := two_pow_le (m := n) (n := 4) (by omega)
    have hp0 := Nat.two_pow_pos n
    obtain ⟨N, hNN⟩ : ∃ N, N = 2 ^ n := ⟨_, rfl⟩
    rw [← hNN] at hw12 h16 hp0
    have HH := Lib.hid (And.intro hh hNN)
    clear hb hh hNN
    go_wp2_with fail
    go_loop [3, 11] (fun t3 t11 => ∃ (t x : Nat), t3 = .int .i64 x ∧ t11 = .int .i64 t ∧ t ≤ N ∧ x ≤ 7 ∧ Hid (∃ s, s < 2 ^ has.length ∧ Elim has has.length s ∧ x = wtN s has.length)) (fun _ t11 => N - (intOf t11).toNat)
    case atStart => exact ⟨0, 0, rfl, rfl, Nat.zero_le _, by omega, 0, Nat.two_pow_pos _, .zero, by
      have : ∀ n : Nat, n < 5 → 0 = wtN 0 n := by decide +kernel
      exact this _ (by have := HH.out.1.n4; omega)⟩
    case round =>
      obtain ⟨t, x, rfl, rfl, ht, hx7, HD⟩ := hrel
      by_cases htN : t < N
      · have htp : t < 2 ^ has.length := by rw [← HN.out, ← HH.out.2]; exact htN
        have HTP := Lib.hid htp
        clear htp
        go_wp2_with fail
        refine (loopless_any has HH.out.1 _ t _ HX.out HTP.out).mono ?_
        rintro e w' ⟨⟨b, rfl, hb⟩, rfl⟩
        cases b with
        | false =>
          clear hb
          go_wp2_with fail
          go_round
          case rel => exact ⟨t + 1, x, rfl, by go_num, by omega, hx7, HD.out⟩
          case measure => simp [intOf]; omega
        | true =>
          have HE := Lib.hid (hb rfl)
          have hw7 := wtN_le t 7
          obtain ⟨c, hc⟩ : ∃ c, c = wtN t 7 := ⟨_, rfl⟩
          rw [← hc] at hw7
          have HC := Lib.hid hc
          clear hb hc
          have hcs : c = wtN t has.length := by rw [HC.out]; exact wt_7 _ (by have := HH.out.1.n4; omega) t HTP.out
          have HCS := Lib.hid hcs
          clear hcs
          go_wp2_with (go_at_call 49; refine (size_any t _ (by omega)).mono ?_; rintro e w' ⟨rfl, rfl⟩; rw [← HC.out])
          go_round
          case rel =>
            by_cases hcx : x ≤ c
            · exact ⟨t + 1, c, val_int (by omega), by go_num, by omega, hw7, t, HTP.out, HE.out, HCS.out⟩
            · exact ⟨t + 1, x, val_int (by omega), by go_num, by omega, hx7, HD.out⟩
          case measure => simp [intOf]; omega
      · obtain rfl : t = N := by omega
        go_wp2_with fail
        go_ret
        exact ⟨x, rfl, fun _ => by
          obtain ⟨s, h1, h2, h3⟩ := HD.out
          exact ⟨s, h1, h2, by rw [h3]⟩, Chg.refl _ _⟩

/-- It tells, and if it says yes, all of the set have each other's words. -/
def ClqS (has : List Int) (n s : Nat) (e : Ending) : Prop := ∃ b : Bool, e = .returned (.bool b) ∧ (b = true → Clq has n s)
set_option maxRecDepth 100000 in
set_option maxHeartbeats 2000000 in
theorem clique_any (has : List Int) (hh : HintsOk has) (vh : Value) (s : Nat) (w : World) (hx : IsI w vh has) (hs : s < 2 ^ has.length) :
    Calls Try.prog 80 #[vh, .int .i64 s] w fun e w' => ClqS has has.length s e ∧ w = w' := by
  obtain ⟨ao, n, cap, rfl, HN, hn⟩ := hx.shape
  have hn4 : n ≤ 4 := by rw [HN.out]; exact hh.n4
  have h16 : 2 ^ has.length ≤ 16 := two_pow_le (m := has.length) (n := 4) hh.n4
  have hs16 : s < 16 := by omega
  have HX := Lib.hid hx
  clear hx hs h16
  go_enter Try.func80, Try.ntmps80
  go_wp2_with fail
  go_loop [9] (fun t9 => ∃ i : Nat, t9 = .int .i64 i ∧ i ≤ n ∧ Hid (∀ j, j < i → bitN s j = 1 → wo (wo s (2 ^ j)) (hN has j) = 0)) (fun t9 => n - (intOf t9).toNat)
  case atStart => exact ⟨0, rfl, Nat.zero_le _, fun j hj => by omega⟩
  case round =>
    obtain ⟨i, rfl, hi, HD⟩ := hrel
    by_cases hin : i < n
    · obtain ⟨bb, oo, rfl, ck⟩ := HX.out.at hin
      have hib : i < has.length := by rw [← HN.out]; exact hin
      have hl := hh.lt hib
      have h16 : 2 ^ has.length ≤ 16 := two_pow_le (m := has.length) (n := 4) hh.n4
      rw [hh.val hib] at ck
      obtain ⟨x, hx⟩ : ∃ x, x = hN has i := ⟨_, rfl⟩
      rw [← hx] at ck hl
      have hx16 : x < 16 := by omega
      have hbit := bits_bit s (by omega) i (by omega)
      have HXX := Lib.hid hx
      clear hx hl h16 hib
      rcases bit_vals s i with hb | hb
      · rw [hb] at hbit
        have HB := Lib.hid hb
        clear hb
        go_wp2_with fail
        go_round
        case rel => exact ⟨i + 1, by go_num, by omega, fun j hj hbj => by
          by_cases e : j = i
          · rw [e, HB.out] at hbj; omega
          · exact HD.out j (by omega) hbj⟩
        case measure => simp [intOf]; omega
      · rw [hb] at hbit
        clear hb
        have hpi : 2 ^ i ≤ 8 := two_pow_le (m := i) (n := 3) (by omega)
        have hwi := wrap_pow i (by omega)
        obtain ⟨pm, hpe⟩ : ∃ pm, pm = 2 ^ i := ⟨_, rfl⟩
        rw [← hpe] at hpi hwi
        have hano := andNot_i64 s (by omega) pm (by omega)
        have hle := wo_le s pm
        obtain ⟨z, hz⟩ : ∃ z, z = wo s pm := ⟨_, rfl⟩
        rw [← hz] at hano hle
        have hano2 := andNot_i64 z (by omega) x (by omega)
        obtain ⟨y, hy⟩ : ∃ y, y = wo z x := ⟨_, rfl⟩
        rw [← hy] at hano2
        have HZ := Lib.hid (show y = wo (wo s (2 ^ i)) (hN has i) by rw [hy, hz, hpe, HXX.out])
        clear hpe hz hy
        by_cases hy0 : y = 0
        · subst hy0
          go_wp2_with fail
          go_round
          case rel => exact ⟨i + 1, by go_num, by omega, fun j hj hbj => by
            by_cases e : j = i
            · rw [e]; exact HZ.out.symm
            · exact HD.out j (by omega) hbj⟩
          case measure => simp [intOf]; omega
        · have hd : ((y : Int) != 0) = true := by simp; omega
          go_wp2_with fail
          go_ret
          exact ⟨⟨false, rfl, fun h => by cases h⟩, rfl⟩
    · obtain rfl : i = n := by omega
      go_wp2_with fail
      go_ret
      exact ⟨⟨true, rfl, fun _ j hj hb => HD.out j (by rw [HN.out]; exact hj) hb⟩, rfl⟩

theorem wo_drop : ∀ s : Nat, s < 16 → ∀ t : Nat, t < 16 → t &&& s = t → t ≠ 0 → wo s t < s := by decide +kernel
theorem and_down : ∀ s : Nat, s < 16 → ∀ t : Nat, t < 16 → (t &&& s) &&& s = t &&& s ∧ t &&& s ≤ t := by decide +kernel
/-- It ends with a number of groups into which all can be parted, or with many. -/
def CliqR (has : List Int) (x : Int) : Prop := HintsOk has → ∃ g : Nat, Cov has has.length (2 ^ has.length - 1) g ∧ x = g
/-- The first s numbers of groups. -/
def GrpL (has : List Int) (n : Nat) (L : List Int) (s : Nat) : Prop := ∀ u, u < s → ∃ g : Nat, gi L u = g ∧ g ≤ n ∧ Cov has n u g
set_option maxRecDepth 100000 in
set_option maxHeartbeats 4000000 in
theorem cliquesOf_any (v : Value) (has : List Int) (w : World) (hx : IsI w v has) :
    Calls Try.prog 30 #[v] w fun e w' => TellsN w e w' (CliqR has) := by
  obtain ⟨ao, n, cap, rfl, HN, hn⟩ := hx.shape
  have HX := Lib.hid hx
  clear hx
  go_enter Try.func30, Try.ntmps30
  go_wp2_with fail
  refine (hintsOk_any _ has _ HX.out).mono ?_
  rintro e w' ⟨⟨b, rfl, hb⟩, rfl⟩
  cases b with
  | false =>
    have HNO : Hid (¬ HintsOk has) := fun h => by have := hb.2 h; cases this
    clear hb
    go_wp2_with fail
    go_ret
    exact ⟨-1, rfl, fun h => absurd h HNO.out, Chg.refl _ _⟩
  | true =>
    have hh := hb.1 rfl
    have hn4 : n ≤ 4 := by rw [HN.out]; exact hh.n4
    have hn1 : 1 ≤ n := by rw [HN.out]; exact hh.n1
    have hw12 := wrap_pow n (by omega)
    have h16 : 2 ^ n ≤ 16 := two_pow_le (m := n) (n := 4) (by omega)
    have hp2 : 2 ≤ 2 ^ n := two_pow_le (m := 1) hn1
    obtain ⟨N, hNN⟩ : ∃ N, N = 2 ^ n := ⟨_, rfl⟩
    rw [← hNN] at hw12 h16 hp2
    have HH := Lib.hid (And.intro hh hNN)
    clear hb hh hNN
    go_wp2_with (at_make; refine wpList_mk rfl _ _ _ rfl tyInt _ _ _ _ N N rfl rfl rfl rfl (Nat.le_refl _) (by omega) ?_; intro v3 w3 hv3 ho3 hn3 hs3; subst hv3; have HO3 := Lib.hid (And.intro ho3 (And.intro hn3 hs3)); clear ho3 hn3 hs3)
    obtain ⟨B, hB⟩ : ∃ B, B = w.heap.size := ⟨_, rfl⟩
    rw [← hB] at HO3
    rw [← hB]
    have HB := Lib.hid hB
    clear hB
    go_loopw [4] (fun t4 wr => ∃ (s : Nat), t4 = .int .i64 s ∧ 1 ≤ s ∧ s ≤ N ∧ ∃ L : List Int, L.length = N ∧ Hid (Own wr 3 (.slice (some ⟨B, 0, none⟩) N N) (L.map (Value.int .i64)) ∧ New w wr ∧ GrpL has n L s)) (fun t4 _ => N - (intOf t4).toNat)
    case atStart => exact ⟨1, rfl, Nat.le_refl _, by omega, List.replicate N 0, List.length_replicate, by rw [List.map_replicate]; exact HO3.out.1, HO3.out.2.1, fun u hu => ⟨0, by
      obtain rfl : u = 0 := by omega
      exact gi_replicate _ _, Nat.zero_le _, by
      obtain rfl : u = 0 := by omega
      exact .zero⟩⟩
    case round =>
      obtain ⟨s, rfl, hs1, hsN, L, hL, HD⟩ := hrel
      obtain ⟨wv, hwv⟩ : ∃ wv : World, wv = wr := ⟨_, rfl⟩
      rw [← hwv] at HD
      rw [← hwv]
      clear hwv
      by_cases hlt : s < N
      · obtain ⟨c1, f1⟩ := HD.out.1.cell (i := s) (by rw [List.length_map, hL]; exact hlt)
        go_wp2_with fail
        have hch : Chg (· = B) wv (wv.setCell ⟨B, s, none⟩ (.int .i64 (n : Int))) := Chg.setCell wv ⟨B, s, none⟩ _
        have hst := HD.out.1.set s (.int .i64 (n : Int))
        rw [set_map_int] at hst
        have hgl : GrpL has n (L.set s (n : Int)) s := fun u hu => by
          obtain ⟨g, g1, g2, g3⟩ := HD.out.2.2 u hu
          exact ⟨g, by rw [gi_set (by rw [hL]; omega), if_neg (by omega)]; exact g1, g2, g3⟩
        have HS := Lib.hid (And.intro hst (And.intro (HD.out.2.1.then hch (fun i hi => by rw [hi, HB.out]; exact Nat.le_refl _)) hgl))
        have hL2 : (L.set s (n : Int)).length = N := by rw [List.length_set, hL]
        have hgs : gi (L.set s (n : Int)) s = n := by rw [gi_set (by rw [hL]; exact hlt), if_pos rfl]
        obtain ⟨L2, hLL⟩ : ∃ L2, L2 = L.set s (n : Int) := ⟨_, rfl⟩
        rw [← hLL] at HS hL2 hgs
        have HGS := Lib.hid hgs
        clear hst hgl hch hgs hLL c1 f1 HD hL
        clear L
        go_loopw [5] (fun t5 wr => ∃ (p : Nat), t5 = .int .i64 p ∧ p ≤ s ∧ ∃ L : List Int, L.length = N ∧ Hid (p &&& s = p ∧ Own wr 3 (.slice (some ⟨B, 0, none⟩) N N) (L.map (Value.int .i64)) ∧ New w wr ∧ GrpL has n L s ∧ ∃ g : Nat, gi L s = g ∧ g ≤ n ∧ Cov has n s g)) (fun t5 _ => (intOf t5).toNat)
        case atStart => exact ⟨s, rfl, Nat.le_refl _, L2, hL2, Nat.and_self s, HS.out.1, HS.out.2.1, HS.out.2.2, n, HGS.out, Nat.le_refl _, .big (Nat.le_refl _)⟩
        case round =>
          clear HS HGS hL2
          clear L2
          obtain ⟨p, rfl, hps, L, hL, HE⟩ := hrel
          obtain ⟨wy, hwy⟩ : ∃ wy : World, wy = wr := ⟨_, rfl⟩
          rw [← hwy] at HE
          rw [← hwy]
          clear hwy
          by_cases hp0 : 0 < p
          · have hpN : p < 2 ^ has.length := by rw [← HN.out, ← HH.out.2]; omega
            have hano := andNot_i64 s (by omega) p (by omega)
            have hdrop := wo_drop s (by omega) p (by omega) HE.out.1 (by omega)
            obtain ⟨z, hz⟩ : ∃ z, z = wo s p := ⟨_, rfl⟩
            rw [← hz] at hano hdrop
            obtain ⟨g, hgs, hgn, hgc⟩ := HE.out.2.2.2.2
            obtain ⟨g2, hgs2, hgn2, hgc2⟩ := HE.out.2.2.2.1 z hdrop
            obtain ⟨c1, f1⟩ := HE.out.2.1.cell (i := s) (by rw [List.length_map, hL]; exact hlt)
            obtain ⟨c2, f2⟩ := HE.out.2.1.cell (i := z) (by rw [List.length_map, hL]; omega)
            rw [gv_map_int (by rw [hL]; exact hlt), hgs] at c1
            rw [gv_map_int (by rw [hL]; omega), hgs2] at c2
            have hpm : 1 ≤ p := hp0
            obtain ⟨q, hq⟩ : ∃ q : Nat, q = p - 1 := ⟨_, rfl⟩
            have hqi : (p : Int) - 1 = (q : Int) := by omega
            have hand := and_i64 q (by omega) s (by omega)
            have hdn := and_down s (by omega) q (by omega)
            obtain ⟨r, hr⟩ : ∃ r, r = q &&& s := ⟨_, rfl⟩
            rw [← hr] at hand hdn
            have HP := Lib.hid (And.intro hpN (And.intro hz (And.intro hgs (And.intro hgc (And.intro hgc2 hdn.1)))))
            have hrq := hdn.2
            have hrp : r < p := by omega
            have HRP := Lib.hid hrp
            have hqq : q < 16 := by omega
            have HLL := Lib.hid hL
            clear hz hgs hgc hgs2 hgc2 hr hdn hrq hrp hL hq
            go_wp2_with fail
            refine (clique_any has HH.out.1 _ p _ (HX.out.new HE.out.2.2.1) HP.out.1).mono ?_
            rintro e w' ⟨⟨b, rfl, hb⟩, rfl⟩
            cases b with
            | false =>
              clear hb
              go_wp2_with fail
              go_roundw
              case rel => exact ⟨r, rfl, by have := HRP.out; omega, L, HLL.out, HP.out.2.2.2.2.2, HE.out.2⟩
              case measure => have := HRP.out; simp [intOf]; omega
            | true =>
              have HCL := Lib.hid (hb rfl)
              clear hb
              go_upto_region 12 with fail
              go_region
              all_goals
                go_wp2_with fail
                have hch : Chg (· = B) wy (wy.drew.setCell ⟨B, s, none⟩ (.int .i64 (min (g : Int) ((g2 : Int) + 1)))) := Chg.trans (New.drew wy) (Chg.setCell wy.drew ⟨B, s, none⟩ _) (fun _ _ x => x.elim) (fun _ _ x => x)
                have hst := (HE.out.2.1.new (New.drew wy)).set s (.int .i64 (min (g : Int) ((g2 : Int) + 1)))
                rw [set_map_int] at hst
                have HQ := Lib.hid (And.intro hst (HE.out.2.2.1.then hch (fun i hi => by rw [hi, HB.out]; exact Nat.le_refl _)))
                clear hst hch
                go_roundw
                case rel =>
                  refine ⟨r, rfl, by have := HRP.out; omega, L.set s (min (g : Int) ((g2 : Int) + 1)), by rw [List.length_set]; exact HLL.out, HP.out.2.2.2.2.2, HQ.out.1, HQ.out.2, fun u hu => ?_, min g (g2 + 1), ?_, by omega, ?_⟩
                  · obtain ⟨g', k1, k2, k3⟩ := HE.out.2.2.2.1 u hu
                    exact ⟨g', by rw [gi_set (by rw [HLL.out]; omega), if_neg (by omega)]; exact k1, k2, k3⟩
                  · rw [gi_set (by rw [HLL.out]; exact hlt), if_pos rfl]; omega
                  · rcases Nat.le_total g (g2 + 1) with hle | hle
                    · rw [Nat.min_eq_left hle]; exact HP.out.2.2.2.1
                    · rw [Nat.min_eq_right hle]; exact .step HE.out.1 (by rw [HN.out]; exact HCL.out) (by rw [← HP.out.2.1]; exact HP.out.2.2.2.2.1)
                case measure => have := HRP.out; simp [intOf]; omega
          · obtain rfl : p = 0 := by omega
            go_wp2_with fail
            go_roundw
            case rel => exact ⟨s + 1, by go_num, by omega, by omega, L, hL, HE.out.2.1, HE.out.2.2.1, fun u hu => by
              by_cases e : u = s
              · rw [e]; exact HE.out.2.2.2.2
              · exact HE.out.2.2.2.1 u (by omega)⟩
            case measure => simp [intOf]; omega
      · obtain rfl : s = N := by omega
        obtain ⟨g, h1, h2, h3⟩ := HD.out.2.2 (s - 1) (by omega)
        obtain ⟨c1, f1⟩ := HD.out.1.cell (i := s - 1) (by rw [List.length_map, hL]; omega)
        rw [gv_map_int (by rw [hL]; omega), h1] at c1
        have hsi : (s : Int) - 1 = ((s - 1 : Nat) : Int) := by omega
        have HG := Lib.hid h3
        obtain ⟨m, hm⟩ : ∃ m, m = s - 1 := ⟨_, rfl⟩
        rw [← hm] at c1 hsi f1
        have hml : m < s := by omega
        have HM := Lib.hid hm
        clear h1 h3 hm
        go_wp2_with fail
        go_ret
        exact ⟨g, rfl, fun _ => ⟨g, by rw [← HN.out, ← HH.out.2]; exact HG.out, rfl⟩, HD.out.2.1⟩
end Go.Proofs.Ytahgjfmdafhedaa
