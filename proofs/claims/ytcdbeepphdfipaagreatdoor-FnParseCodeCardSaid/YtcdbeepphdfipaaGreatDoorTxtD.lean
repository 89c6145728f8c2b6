/- The program's digits; the reference's CodeText. -/
import Derived.Test.YtcdbeepphdfipaaGreatDoorTxtS
import Derived.Test.YtcdbeepphdfipaaGreatDoorBld
import Derived.Test.YtcdbeepphdfipaaGreatDoorTxtA
import Derived.Test.YtcdbeepphdfipaaGreatDoorTxtR
namespace Go.Proofs.YtcdbeepphdfipaaGreatDoor
open Go.RowKit
set_option linter.unusedVariables false

theorem byteCells_append (a b : List UInt8) : Lib.byteCells a ++ Lib.byteCells b = Lib.byteCells (a ++ b) := by simp [Lib.byteCells]
theorem strCells_bs (a : List UInt8) : Lib.strCells (bs a) = Lib.byteCells a := by rw [Lib.strCells_eq, bs_list]

theorem itoa_any (x : Int) (h0 : 0 ≤ x) (h9 : x ≤ 9) (w : World) :
    Calls Tryz.prog 37 #[.int .i64 x] w fun e w' => e = .returned (.string (bs [digB x])) ∧ w = w' := by
  obtain ⟨n, rfl⟩ : ∃ n : Nat, x = n := ⟨x.toNat, by omega⟩
  refine (Tryz.strconv_Itoa_small n (by omega) w).mono ?_
  rintro e w' ⟨rfl, rfl⟩
  exact ⟨by rw [dec_small n (by omega)]; rfl, rfl⟩

set_option maxHeartbeats 1000000 in
theorem digits_any (v : Value) (xs : List Int) (w : World) (hr : IsI w v xs) (hd : ∀ k, k < xs.length → 0 ≤ gi xs k ∧ gi xs k ≤ 9) (h7 : xs.length ≤ 7) :
    Calls Tryz.prog 36 #[v] w fun e w' => e = .returned (.string (bs (rowT xs))) ∧ New w w' := by
  obtain ⟨ao, n, cap, rfl, HN, hn⟩ := hr.shape
  have hn7 : n ≤ 7 := by rw [HN.out]; exact h7
  have HR := Lib.hid hr
  have HD := Lib.hid hd
  have h1 : New w (w.alloc (.cells #[.pointer none, .slice none 0 0] 72)) := New.alloc _ _
  have hB := Lib.fresh_isBuilder 72 5 w
  clear hr hd h7
  go_enter Tryz.func36, Tryz.ntmps36
  go_wp2_with fail
  go_loopw [8] (fun t8 wr => ∃ k : Nat, t8 = .int .i64 k ∧ k ≤ n ∧ Hid (Lib.IsBuilder 72 5 w.heap.size w.heap.size (Lib.byteCells (rowT (xs.take k))) wr ∧ New w wr)) (fun t8 _ => n - (intOf t8).toNat)
  case atStart => exact ⟨0, rfl, Nat.zero_le _, hB, h1⟩
  case round =>
    obtain ⟨k, rfl, hk, HL⟩ := hrel
    by_cases hkn : k < n
    · obtain ⟨b, o, rfl, ck⟩ := (HR.out.new HL.out.2).at (i := k) hkn
      obtain ⟨x, hx⟩ : ∃ x, gi xs k = x := ⟨_, rfl⟩
      rw [hx] at ck
      have hdx : 0 ≤ x ∧ x ≤ 9 := by rw [← hx]; exact HD.out k (by rw [← HN.out]; exact hkn)
      have HX := Lib.hid hx
      clear hx
      go_wp2_with (go_at_call 37; refine (itoa_any x hdx.1 hdx.2 _).mono ?_; rintro e w' ⟨rfl, rfl⟩)
      refine (writeString_any _ _ _ _ _ HL.out.1 ?_ HL.out.2.size).mono ?_
      · rw [bs_size, Lib.byteCells_length, rowT, List.length_map, List.length_take]
        simp
        omega
      rintro e w2 ⟨rfl, hb2, hl2⟩
      have hn2 : New w w2 := Chg.of_below (Below.trans (Chg.below HL.out.2) hl2)
      have H2 := Lib.hid (And.intro hb2 hn2)
      clear hb2 hn2 hl2
      go_wp2_with fail
      go_roundw
      case rel => exact ⟨k + 1, by go_num, by omega, .inr (by
        have h := H2.out.1
        rw [strCells_bs, byteCells_append, ← HX.out, ← rowT_take (by rw [← HN.out]; exact hkn)] at h
        exact h), H2.out.2⟩
      case measure => simp [intOf]; omega
    · obtain rfl : k = n := by omega
      go_wp2_with fail
      refine (Tryz.Builder_String_any _ _ _ _ HL.out.1 HL.out.2.size).mono ?_
      rintro e w2 ⟨rfl, hl2⟩
      have hn2 : New w w2 := Chg.of_below (Below.trans (Chg.below HL.out.2) hl2)
      have H2 := Lib.hid hn2
      clear hn2 hl2
      go_wp2_with fail
      go_ret
      exact ⟨ret_str (by rw [HN.out, rowT_all]; rfl), H2.out⟩

end Go.Proofs.YtcdbeepphdfipaaGreatDoor
