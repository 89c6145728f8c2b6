/- The program's digits; the reference's CodeText. -/
import Derived.Test.YtcdbeepphdfipaaDoorTxtS
import Derived.Test.YtcdbeepphdfipaaDoorBld
import Derived.Test.YtcdbeepphdfipaaDoorLeaf
namespace Go.Proofs.YtcdbeepphdfipaaDoor
open Go.RowKit
set_option linter.unusedVariables false

theorem byteCells_append (a b : List UInt8) : Lib.byteCells a ++ Lib.byteCells b = Lib.byteCells (a ++ b) := by simp [Lib.byteCells]
theorem strCells_bs (a : List UInt8) : Lib.strCells (bs a) = Lib.byteCells a := by rw [Lib.strCells_eq, bs_list]
theorem tyStr : OneTy Tryd.prog 36 9 (.string ⟨#[]⟩) := OneTy.mk (n := 1) (b := 16) Tryd.underlying36 (by kernel_rfl) rfl (by decide) rfl

theorem itoa_any (x : Int) (h0 : 0 ≤ x) (h9 : x ≤ 9) (w : World) :
    Calls Tryd.prog 16 #[.int .i64 x] w fun e w' => e = .returned (.string (bs [digB x])) ∧ w = w' := by
  obtain ⟨n, rfl⟩ : ∃ n : Nat, x = n := ⟨x.toNat, by omega⟩
  refine (Tryd.strconv_Itoa_small n (by omega) w).mono ?_
  rintro e w' ⟨rfl, rfl⟩
  exact ⟨by rw [dec_small n (by omega)]; rfl, rfl⟩

set_option maxHeartbeats 1000000 in
theorem digits_any (v : Value) (xs : List Int) (w : World) (hr : IsI w v xs) (hd : ∀ k, k < xs.length → 0 ≤ gi xs k ∧ gi xs k ≤ 9) (h7 : xs.length ≤ 7) :
    Calls Tryd.prog 15 #[v] w fun e w' => e = .returned (.string (bs (rowT xs))) ∧ New w w' := by
  obtain ⟨ao, n, cap, rfl, HN, hn⟩ := hr.shape
  have hn7 : n ≤ 7 := by rw [HN.out]; exact h7
  have HR := Lib.hid hr
  have HD := Lib.hid hd
  have h1 : New w (w.alloc (.cells #[.pointer none, .slice none 0 0] 51)) := New.alloc _ _
  have hB := Lib.fresh_isBuilder 51 5 w
  clear hr hd h7
  go_enter Tryd.func15, Tryd.ntmps15
  go_wp2_with fail
  go_loopw [8] (fun t8 wr => ∃ k : Nat, t8 = .int .i64 k ∧ k ≤ n ∧ Hid (Lib.IsBuilder 51 5 w.heap.size w.heap.size (Lib.byteCells (rowT (xs.take k))) wr ∧ New w wr)) (fun t8 _ => n - (intOf t8).toNat)
  case atStart => exact ⟨0, rfl, Nat.zero_le _, hB, h1⟩
  case round =>
    obtain ⟨k, rfl, hk, HL⟩ := hrel
    by_cases hkn : k < n
    · obtain ⟨b, o, rfl, ck⟩ := (HR.out.new HL.out.2).at (i := k) hkn
      obtain ⟨x, hx⟩ : ∃ x, gi xs k = x := ⟨_, rfl⟩
      rw [hx] at ck
      have hdx : 0 ≤ x ∧ x ≤ 9 := by rw [← hx]; exact HD.out k (by rw [← HN.out]; exact hkn)
      have HX := Lib.hid hx
      clear hx
      go_wp2_with (go_at_call 16; refine (itoa_any x hdx.1 hdx.2 _).mono ?_; rintro e w' ⟨rfl, rfl⟩)
      refine (writeString_any _ _ _ _ _ HL.out.1 ?_ HL.out.2.size).mono ?_
      · rw [bs_size, Lib.byteCells_length, rowT, List.length_map, List.length_take]
        simp
        omega
      rintro e w2 ⟨rfl, hb2, hl2⟩
      have hn2 : New w w2 := Chg.of_below (Below.trans (Chg.below HL.out.2) hl2)
      have H2 := Lib.hid (And.intro hb2 hn2)
      clear hb2 hn2 hl2
      go_wp2_with fail
      go_roundw
      case rel => exact ⟨k + 1, by go_num, by omega, .inr (by
        have h := H2.out.1
        rw [strCells_bs, byteCells_append, ← HX.out, ← rowT_take (by rw [← HN.out]; exact hkn)] at h
        exact h), H2.out.2⟩
      case measure => simp [intOf]; omega
    · obtain rfl : k = n := by omega
      go_wp2_with fail
      refine (Tryd.Builder_String_any _ _ _ _ HL.out.1 HL.out.2.size).mono ?_
      rintro e w2 ⟨rfl, hl2⟩
      have hn2 : New w w2 := Chg.of_below (Below.trans (Chg.below HL.out.2) hl2)
      have H2 := Lib.hid hn2
      clear hn2 hl2
      go_wp2_with fail
      go_ret
      exact ⟨ret_str (by rw [HN.out, rowT_all]; rfl), H2.out⟩

/-- What CodeText returns. -/
def TxtR (p : Int) (rows : List (List Int)) (s : ByteArray) : Prop := (ValidC p rows → s = bs (codeT p rows)) ∧ (¬ ValidC p rows → s = bs [])
theorem TxtR.unique {p : Int} {rows : List (List Int)} {a b : ByteArray} (h : TxtR p rows a) (h' : TxtR p rows b) : a = b := by
  by_cases c : ValidC p rows
  · rw [h.1 c, h'.1 c]
  · rw [h.2 c, h'.2 c]

theorem ValidC.digs {p : Int} {rows : List (List Int)} (h : ValidC p rows) : (0 ≤ p ∧ p ≤ 9) ∧ (∀ i k, i < rows.length → k < (gr rows i).length → 0 ≤ gi (gr rows i) k ∧ gi (gr rows i) k ≤ 9) ∧ 1 ≤ rows.length ∧ rows.length ≤ 6 ∧ ∀ i, i < rows.length → (gr rows i).length ≤ 7 := by
  obtain ⟨h1, h2, h3, h4⟩ := vtB_iff.1 h.1
  refine ⟨by omega, fun i k hi hk => ?_, h2.1, h2.2, fun i hi => by rw [(h4 i hi).1]; exact h3.2⟩
  have := (h4 i hi).2 k hk
  omega

theorem rowsTo_le {rows : List (List Int)} (h7 : ∀ i, i < rows.length → (gr rows i).length ≤ 7) : ∀ k, k ≤ rows.length → (rowsTo rows k).length ≤ 8 * k
  | 0, _ => by simp [rowsTo]
  | k + 1, h => by
    have h1 := rowsTo_le h7 k (by omega)
    have h2 := h7 k (by omega)
    have h3 : (if k = 0 then ([] : List UInt8) else [47]).length ≤ 1 := by split <;> simp
    rw [rowsTo, List.length_append, List.length_append, rowT, List.length_map]
    omega
end Go.Proofs.YtcdbeepphdfipaaDoor
