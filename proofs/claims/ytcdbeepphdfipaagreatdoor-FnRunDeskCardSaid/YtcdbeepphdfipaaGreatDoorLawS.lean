/- The laws' helpers for lists of texts. -/
import Derived.Test.YtcdbeepphdfipaaGreatDoorDesk
import Derived.Test.YtcdbeepphdfipaaGreatDoorLawK
import Derived.Deep.Strs
import Derived.BigQuiet
namespace Go.Proofs.YtcdbeepphdfipaaGreatDoor
open Go.RowKit
set_option linter.unusedVariables false

theorem IsS.cap {w : World} {ao : Option Addr} {n cap : Nat} {ls : List (List UInt8)} (h : IsS w (.slice ao n cap) ls) : n ≤ cap ∧ cap ≤ maxLen := by
  obtain ⟨ao', cap', e, h1, h2, h3⟩ := h
  simp only [Value.slice.injEq] at e
  obtain ⟨rfl, rfl, rfl⟩ := e
  exact ⟨h1.1, h2⟩
theorem isS_of_own {w : World} {v : Value} {ls : List (List UInt8)} (h : Own w 9 v (strV ls)) : IsS w v ls := by
  have hsl : (strV ls).length = ls.length := by rw [strV, List.length_map]
  rcases h with ⟨rfl, h⟩ | ⟨g, cap, cur, rfl, hh, ha, hb, hc, ht⟩
  · have h0 : ls.length = 0 := by rw [← hsl, h]; rfl
    exact ⟨none, 0, by rw [h0], ⟨by omega, by simp⟩, by simp [maxLen], fun i hi => by omega⟩
  · rw [hsl] at ha ⊢
    refine ⟨_, cap, rfl, ⟨by omega, by simp⟩, hb, fun i hi => ⟨g, 0, rfl, ?_⟩⟩
    rw [Nat.zero_add, cell_of_heap hh]
    have h2 := take_get (cur := cur) (xs := strV ls) ht (i := i) (by rw [hsl]; exact hi)
    rw [h2, gv_strV hi, getD_lt hi]

set_option maxHeartbeats 1000000 in
theorem szStringS_any (v : Value) (ls : List (List UInt8)) (w : World) (hs : IsS w v ls) (hz : ∀ i, (ls.getD i []).length ≤ 9223372036854775807) :
    Calls Tryz.prog 19 #[v, .int .i64 1048576] w fun e w' => (∃ r : Int, e = .returned (.int .i64 r) ∧ (r < 0 ∨ (ls.length ≤ 1048576 ∧ ∀ i, i < ls.length → (ls.getD i []).length ≤ 1048576))) ∧ w = w' := by
  obtain ⟨ao, n, cap, rfl, HN⟩ := hs.shape
  have hc := hs.cap
  have HS := Lib.hid hs
  have HZ := Lib.hid hz
  have hn2 : n ≤ 9223372036854775807 := by have := hc.2; unfold maxLen at this; omega
  clear hs hz hc
  by_cases hbig : (1048576 : Int) - n < 0
  · go_enter Tryz.func19, Tryz.ntmps19
    go_wp2_with fail
    go_ret
    exact ⟨⟨_, rfl, .inl (by omega)⟩, rfl⟩
  · have hn1 : n ≤ 1048576 := by omega
    go_enter Tryz.func19, Tryz.ntmps19
    go_wp2_with fail
    go_loop [1, 5] (fun t1 t5 => ∃ (i : Nat) (r : Int), t1 = .int .i64 r ∧ t5 = .int .i64 i ∧ i ≤ n ∧ (0 ≤ r ∧ r ≤ 1048576) ∧ Hid (∀ j, j < i → (ls.getD j []).length ≤ 1048576)) (fun _ t5 => n - (intOf t5).toNat)
    case atStart => exact ⟨0, _, rfl, rfl, Nat.zero_le _, by omega, fun j hj => absurd hj (Nat.not_lt_zero j)⟩
    case round =>
      obtain ⟨i, r, rfl, rfl, hi, hr, HD⟩ := hrel
      have hr0 := hr.1
      have hr1 := hr.2
      by_cases hin : i < n
      · obtain ⟨b, o, rfl, ck⟩ := HS.out.at hin
        have hzi := HZ.out i
        obtain ⟨Z, hZ⟩ : ∃ Z, Z = bs (ls.getD i []) := ⟨_, rfl⟩
        rw [← hZ] at ck
        have hzs : Z.size = (ls.getD i []).length := by rw [hZ, bs_size]
        have hzl : Z.size ≤ 9223372036854775807 := by omega
        have HZS := Lib.hid hzs
        clear hZ hzs hzi hr
        by_cases hneg : r - (Z.size : Int) < 0
        · go_wp2_with fail
          go_ret
          exact ⟨⟨_, rfl, .inl (by omega)⟩, rfl⟩
        · go_wp2_with fail
          go_round
          case rel => exact ⟨i + 1, r - (Z.size : Int), by first | rfl | go_num, by go_num, by omega, by omega, fun j hj => by
            by_cases hji : j < i
            · exact HD.out j hji
            · obtain rfl : j = i := by omega
              have := HZS.out
              omega⟩
          case measure => simp [intOf]; omega
      · obtain rfl : i = n := by omega
        go_wp2_with fail
        go_ret
        exact ⟨⟨_, rfl, .inr ⟨by rw [← HN.out]; exact hn1, fun j hj => HD.out j (by rw [HN.out]; exact hj)⟩⟩, rfl⟩

set_option maxHeartbeats 1000000 in
theorem toStringS_any (v : Value) (ls : List (List UInt8)) (w : World) (hs : IsS w v ls) (hl : ls.length ≤ 1048576) :
    Calls Tryz.prog 21 #[v] w fun e w' => ∃ u, e = .returned u ∧ Own w' 9 u (strV ls) ∧ From w.heap.size u ∧ New w w' := by
  obtain ⟨ao, n, cap, rfl, HN⟩ := hs.shape
  have hn : n ≤ 1048576 := by rw [HN.out]; exact hl
  have HX := Lib.hid hs
  clear hs hl
  go_enter Tryz.func21, Tryz.ntmps21
  go_wp2_with (at_make; refine wpList_mk rfl _ _ _ rfl tyStr _ _ _ _ n n rfl rfl rfl rfl (Nat.le_refl _) (by omega) ?_; intro v3 w3 hv3 ho3 hn3 hs3; subst hv3; have HO3 := Lib.hid ho3; have HN3 := Lib.hid hn3; clear ho3 hn3 hs3)
  go_loopw [4] (fun i wr => ∃ k : Nat, i = .int .i64 k ∧ k ≤ n ∧ Own wr 9 (.slice (some ⟨w.heap.size, 0, none⟩) n n) (strV (ls.take k) ++ List.replicate (n - k) (.string ⟨#[]⟩)) ∧ New w wr) (fun i _ => n - (intOf i).toNat)
  case atStart => exact ⟨0, rfl, Nat.zero_le _, by simpa [strV] using HO3.out, HN3.out⟩
  case round =>
    obtain ⟨k, rfl, hk, hown, hnew⟩ := hrel
    have HO := Lib.hid hown
    have HW := Lib.hid hnew
    clear hown hnew
    by_cases hkn : k < n
    · have hkx : k < ls.length := by rw [← HN.out]; exact hkn
      obtain ⟨b, o, rfl, ck⟩ := (HX.out.new HW.out).at hkn
      have hsl : (strV (ls.take k)).length = k := by rw [strV, List.length_map, List.length_take]; omega
      obtain ⟨c1, f1⟩ := HO.out.cell (i := k) (by rw [List.length_append, hsl, List.length_replicate]; omega)
      obtain ⟨Z, hZ⟩ : ∃ Z, Z = bs (ls.getD k []) := ⟨_, rfl⟩
      rw [← hZ] at ck
      have hst := HO.out.set k (.string Z)
      rw [set_replicate hsl hkn] at hst
      have HT : Hid (Own (wr.setCell ⟨w.heap.size, k, none⟩ (.string Z)) 9 (.slice (some ⟨w.heap.size, 0, none⟩) n n) (strV (ls.take (k + 1)) ++ List.replicate (n - (k + 1)) (.string ⟨#[]⟩))) := by
        have e : strV (ls.take (k + 1)) = strV (ls.take k) ++ [.string Z] := by
          rw [strV, List.take_add_one, List.getElem?_eq_getElem hkx, List.map_append, hZ, getD_lt hkx]
          rfl
        show Own _ _ _ _
        rw [e]
        exact hst
      clear hst hZ hsl
      go_wp2_with fail
      go_roundw
      case rel => exact ⟨k + 1, by go_num, by omega, HT.out, HW.out.then (Chg.setCell _ _ _) (fun i hi => Nat.le_of_eq hi.symm)⟩
      case measure => simp [intOf]; omega
    · obtain rfl : k = n := by omega
      go_wp2_with fail
      go_ret
      exact ⟨_, rfl, by have h := HO.out; rw [Nat.sub_self, List.replicate_zero, List.append_nil, HN.out, List.take_length, ← HN.out] at h; exact h, From.new _ _ _, HW.out⟩

set_option maxHeartbeats 1000000 in
theorem eqStringS_yes (va vb : Value) (ls : List (List UInt8)) (w : World) (hx : IsS w va ls) (hy : IsS w vb ls) (hl : ls.length ≤ 1048576) :
    Calls Tryz.prog 23 #[va, vb] w fun e w' => e = .returned (.bool true) ∧ New w w' := by
  obtain ⟨a1, n1, p1, rfl, H1⟩ := hx.shape
  obtain ⟨a2, n2, p2, rfl, H2⟩ := hy.shape
  obtain rfl : n1 = n2 := by rw [H1.out, H2.out]
  have hn : n1 ≤ 1048576 := by rw [H1.out]; exact hl
  have HX := Lib.hid hx
  have HY := Lib.hid hy
  clear hx hy hl
  go_enter Tryz.func23, Tryz.ntmps23
  go_wp2_with fail
  go_loopw [5] (fun t5 wr => ∃ i : Nat, t5 = .int .i64 i ∧ i ≤ n1 ∧ Hid (New w wr)) (fun t5 _ => n1 - (intOf t5).toNat)
  case atStart => exact ⟨0, rfl, Nat.zero_le _, Chg.refl _ _⟩
  case round =>
    obtain ⟨i, rfl, hi, HW⟩ := hrel
    by_cases hin : i < n1
    · obtain ⟨b, o, rfl, ck⟩ := (HX.out.new HW.out).at hin
      obtain ⟨b', o', rfl, ck'⟩ := (HY.out.new HW.out).at hin
      obtain ⟨Z, hZ⟩ : ∃ Z, Z = bs (ls.getD i []) := ⟨_, rfl⟩
      rw [← hZ] at ck ck'
      clear hZ
      go_wp2_with fail
      go_quiet (fail)
      go_wp2_with fail
      go_roundw
      case rel => exact ⟨i + 1, by go_num, by omega, HW.out.trans (New.drewN _ _)⟩
      case measure => simp [intOf]; omega
    · obtain rfl : i = n1 := by omega
      go_wp2_with fail
      go_ret
      exact ⟨rfl, HW.out⟩
end Go.Proofs.YtcdbeepphdfipaaGreatDoor
