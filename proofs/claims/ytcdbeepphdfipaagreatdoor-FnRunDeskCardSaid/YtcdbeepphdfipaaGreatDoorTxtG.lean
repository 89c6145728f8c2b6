/- The reference's texts: number, rowsText. strings.Builder's copyCheck and WriteString at this program: own walks (the shelf's do not lie on a dump whose copyCheck bears a refusal). strings.Builder's WriteByte at this program: an own walk. The program's digits; the reference's CodeText. CodeText of both. -/
import Derived.Test.YtcdbeepphdfipaaGreatDoorPrsP
import Derived.Test.YtcdbeepphdfipaaGreatDoorKnow
import Derived.Laws.Concat
import Derived.Test.YtcdbeepphdfipaaGreatDoorShelf
import Derived.Lib.Strings
import Derived.Lib.Slices
import Derived.Lib.Walk
import Derived.Lib.Builder
import Derived.Lib.AppendStr
import Derived.Lib.UnsafeStr
import Derived.WalkKit
import Derived.Laws.Externs
import Derived.Laws.IdiomCopy
import Derived.Test.YtcdbeepphdfipaaGreatDoorPrsS
import Derived.BigQuiet
namespace Go.Proofs.YtcdbeepphdfipaaGreatDoor
open Go.RowKit
set_option linter.unusedVariables false

theorem ret_str {a b : ByteArray} (h : a = b) : Ending.returned (.string a) = .returned (.string b) := by rw [h]

set_option maxHeartbeats 1000000 in
theorem number_any (x : Int) (h0 : 0 ≤ x) (h9 : x ≤ 9) (w : World) :
    Calls Tryz.prog 40 #[.int .i64 x] w fun e w' => e = .returned (.string (bs [digB x])) ∧ w = w' := by
  have h : x = 0 ∨ x = 1 ∨ x = 2 ∨ x = 3 ∨ x = 4 ∨ x = 5 ∨ x = 6 ∨ x = 7 ∨ x = 8 ∨ x = 9 := by omega
  clear h0 h9
  go_enter Tryz.func40, Tryz.ntmps40
  rcases h with rfl | rfl | rfl | rfl | rfl | rfl | rfl | rfl | rfl | rfl <;> (go_wp2_with fail; go_ret; exact ⟨rfl, rfl⟩)

set_option maxHeartbeats 1000000 in
theorem rowsText_any (v : Value) (rows : List (List Int)) (w : World) (hr : IsR w v rows) (hd : ∀ i k, i < rows.length → k < (gr rows i).length → 0 ≤ gi (gr rows i) k ∧ gi (gr rows i) k ≤ 9) (h4 : rows.length ≤ 6) (h7 : ∀ i, i < rows.length → (gr rows i).length ≤ 7) :
    Calls Tryz.prog 41 #[v] w fun e w' => e = .returned (.string (bs (rowsTo rows rows.length))) ∧ w = w' := by
  obtain ⟨ao, n, cap, rfl, HN, hn⟩ := hr.shape
  have HR := Lib.hid hr
  have HD := Lib.hid hd
  have H7 := Lib.hid h7
  have hn6 : n ≤ 6 := by rw [HN.out]; exact h4
  clear hr hd h4 h7
  go_enter Tryz.func41, Tryz.ntmps41
  go_wp2_with fail
  go_loop [3, 4] (fun t3 t4 => ∃ (i : Nat) (s : ByteArray), t3 = .string s ∧ t4 = .int .i64 i ∧ i ≤ n ∧ s.size ≤ 16 * i ∧ Hid (s = bs (rowsTo rows i))) (fun _ t4 => n - (intOf t4).toNat)
  case atStart => exact ⟨0, _, rfl, rfl, Nat.zero_le _, Nat.le_refl _, rfl⟩
  case round =>
    obtain ⟨i, s, rfl, rfl, hi, hsz, HS⟩ := hrel
    by_cases hin : i < n
    rotate_left
    · obtain rfl : i = n := by omega
      go_wp2_with fail
      go_ret
      exact ⟨ret_str (by rw [HS.out, HN.out]), rfl⟩
    obtain ⟨b, o, u, rfl, ck, hu⟩ := HR.out.at (i := i) hin
    obtain ⟨au, m, cu, rfl, HM, hm⟩ := hu.shape
    have hm7 : m ≤ 7 := by rw [HM.out]; exact H7.out i (by rw [← HN.out]; exact hin)
    have HU := Lib.hid hu
    clear hu
    obtain ⟨P, hP⟩ : ∃ P, P = rowsTo rows i ++ (if i = 0 then [] else [47]) := ⟨_, rfl⟩
    have HP := Lib.hid hP
    clear hP
    by_cases hi0 : 0 < i
    rotate_left
    · obtain rfl : i = 0 := by omega
      rw [Nat.add_zero] at ck
      go_wp2_with fail
      go_loop [3, 5] (fun t3 t5 => ∃ (k : Nat) (z : ByteArray), t3 = .string z ∧ t5 = .int .i64 k ∧ k ≤ m ∧ z.size ≤ 16 * 0 + 1 + k ∧ Hid (z = bs (P ++ rowT ((gr rows 0).take k)))) (fun _ t5 => m - (intOf t5).toNat)
      case atStart => exact ⟨0, _, rfl, rfl, Nat.zero_le _, by omega, by show _ = _; rw [HS.out, HP.out]; rfl⟩
      case round =>
        obtain ⟨k, z, rfl, rfl, hk, hzs, HZ⟩ := hrel
        by_cases hkm : k < m
        · obtain ⟨bb, oo, rfl, cx⟩ := HU.out.at (i := k) hkm
          obtain ⟨x, hx⟩ : ∃ x, gi (gr rows 0) k = x := ⟨_, rfl⟩
          rw [hx] at cx
          have hd : 0 ≤ x ∧ x ≤ 9 := by rw [← hx]; exact HD.out 0 k (by rw [← HN.out]; exact hin) (by rw [← HM.out]; exact hkm)
          have HX := Lib.hid hx
          clear hx
          have hadd := fun w => run_string_add_sum (P := Tryz.prog) w z (bs [digB x]) (by rw [bs_size]; simp; omega)
          go_wp2_with (go_at_call 40; refine (number_any x hd.1 hd.2 _).mono ?_; rintro e w' ⟨rfl, rfl⟩)
          go_round
          case rel => exact ⟨k + 1, _, rfl, by go_num, by omega, by rw [ByteArray.size_append, bs_size]; simp; omega, by show _ = _; rw [HZ.out, bs_append, rowT_take (by rw [← HM.out]; exact hkm), HX.out, List.append_assoc]⟩
          case measure => simp [intOf]; omega
        · obtain rfl : k = m := by omega
          go_wp2_with fail
          go_round
          case rel => exact ⟨0 + 1, _, rfl, by go_num, by omega, by omega, by show _ = _; rw [HZ.out, HM.out, rowT_all, HP.out]; rfl⟩
          case measure => simp [intOf]; omega
    have hadd := fun w => run_string_add_sum (P := Tryz.prog) w s ⟨#[47]⟩ (by show s.size + 1 ≤ _; omega)
    go_wp2_with fail
    go_loop [3, 5] (fun t3 t5 => ∃ (k : Nat) (z : ByteArray), t3 = .string z ∧ t5 = .int .i64 k ∧ k ≤ m ∧ z.size ≤ 16 * i + 1 + k ∧ Hid (z = bs (P ++ rowT ((gr rows i).take k)))) (fun _ t5 => m - (intOf t5).toNat)
    case atStart => exact ⟨0, _, rfl, rfl, Nat.zero_le _, by rw [ByteArray.size_append]; show s.size + 1 ≤ _; omega, by show _ = _; rw [HS.out, HP.out, if_neg (by omega), List.take_zero, show rowT [] = [] from rfl, List.append_nil, ← bs_append]; rfl⟩
    case round =>
      obtain ⟨k, z, rfl, rfl, hk, hzs, HZ⟩ := hrel
      by_cases hkm : k < m
      · obtain ⟨bb, oo, rfl, cx⟩ := HU.out.at (i := k) hkm
        obtain ⟨x, hx⟩ : ∃ x, gi (gr rows i) k = x := ⟨_, rfl⟩
        rw [hx] at cx
        have hd : 0 ≤ x ∧ x ≤ 9 := by rw [← hx]; exact HD.out i k (by rw [← HN.out]; exact hin) (by rw [← HM.out]; exact hkm)
        have HX := Lib.hid hx
        clear hx
        have hadd := fun w => run_string_add_sum (P := Tryz.prog) w z (bs [digB x]) (by rw [bs_size]; simp; omega)
        go_wp2_with (go_at_call 40; refine (number_any x hd.1 hd.2 _).mono ?_; rintro e w' ⟨rfl, rfl⟩)
        go_round
        case rel => exact ⟨k + 1, _, rfl, by go_num, by omega, by rw [ByteArray.size_append, bs_size]; simp; omega, by show _ = _; rw [HZ.out, bs_append, rowT_take (by rw [← HM.out]; exact hkm), HX.out, List.append_assoc]⟩
        case measure => simp [intOf]; omega
      · obtain rfl : k = m := by omega
        go_wp2_with fail
        go_round
        case rel => exact ⟨i + 1, _, rfl, by go_num, by omega, by omega, by show _ = _; rw [HZ.out, HM.out, rowT_all, HP.out]; rfl⟩
        case measure => simp [intOf]; omega

end Go.Proofs.YtcdbeepphdfipaaGreatDoor

namespace Go.Proofs.YtcdbeepphdfipaaGreatDoor
open Go.Shelf Go.RowKit
set_option linter.unusedVariables false

theorem sizeBuilder : (Tryz.prog.info? 72).map (·.size) = some 2 := by kernel_rfl
theorem liesBuilder : liesAt Tryz.prog Tryz.prog.depth 72 (2 / Tryz.prog.cellsOf 72) 0 72 1 = true := by kernel_rfl
theorem infoByte : (Tryz.prog.info? 5).map (fun i => (i.zero, i.size, i.bytes)) = some (some (.int .u8 0), 1, 1) := by kernel_rfl

set_option maxHeartbeats 1000000 in
set_option maxRecDepth 100000 in
theorem copyCheck_used (b : Nat) (w : World) (h0 : w.cell? ⟨b, 0, none⟩ = some (.pointer (some ⟨b, 0, none⟩))) :
    Calls Tryz.prog 83 #[.pointer (some ⟨b, 0, none⟩)] w fun e w' => e = .returned (.tuple #[]) ∧ w' = w := by
  obtain ⟨j, hj, _⟩ := Option.map_eq_some_iff.1 sizeBuilder
  go_enter Tryz.func83, Tryz.ntmps83
  go_wp2
  rw [Lib.run_neq_ptr_same w _ Tryz.underlying70 hj]
  go_wp2
  go_end0
  exact ⟨rfl, rfl⟩

set_option maxHeartbeats 1000000 in
set_option maxRecDepth 100000 in
theorem copyCheck_fresh (b : Nat) (w : World) (h0 : w.cell? ⟨b, 0, none⟩ = some (.pointer none)) (hsh : w.shape? b = some (72, 2)) (hfz : w.frozen? ⟨b, 0, none⟩ = false) :
    Calls Tryz.prog 83 #[.pointer (some ⟨b, 0, none⟩)] w fun e w' => e = .returned (.tuple #[]) ∧ w' = w.setCell ⟨b, 0, none⟩ (.pointer (some ⟨b, 0, none⟩)) := by
  obtain ⟨j, hj, hjs⟩ := Option.map_eq_some_iff.1 sizeBuilder
  go_enter Tryz.func83, Tryz.ntmps83
  go_wp2
  rw [Lib.run_to_unsafe w ⟨b, 0, none⟩ Tryz.underlying70 Tryz.underlying132 hj (by rw [hjs]; decide) hsh (Nat.zero_lt_succ 1)]
  simp only [Result.andThen]
  rw [Oper.upon_value]
  go_wp2
  rw [run_callFunc_extern Tryz.func123 (by kernel_rfl) (by kernel_rfl) (by kernel_rfl) (e := Extern.AbiNoEscape.same) (by kernel_rfl)]
  rw [Lib.run_noEscape]
  simp only [Result.andThen]
  rw [Oper.upon_value]
  go_wp2
  rw [Lib.run_from_unsafe w ⟨b, 0, none⟩ Tryz.underlying132 Tryz.underlying70 hj hsh liesBuilder]
  simp only [Result.andThen]
  rw [Oper.upon_value]
  go_wp2
  go_end0
  exact ⟨rfl, rfl⟩

theorem copyCheck_any (B b : Nat) (bs : List Value) (w : World) (h : Lib.IsBuilder 72 5 B b bs w) :
    Calls Tryz.prog 83 #[.pointer (some ⟨b, 0, none⟩)] w fun e w' => e = .returned (.tuple #[]) ∧ (Lib.BuilderAt 72 5 B b (.pointer (some ⟨b, 0, none⟩)) bs w' ∧ Below B w w') := by
  rcases h with h | h
  · refine (copyCheck_fresh b w h.cell0 h.shape h.frozen0).mono ?_
    rintro e w' ⟨rfl, rfl⟩
    exact ⟨rfl, h.used _, (Below.refl B w).setCell (p := ⟨b, 0, none⟩) h.1 _⟩
  · refine (copyCheck_used b w h.cell0).mono ?_
    rintro e w' ⟨rfl, rfl⟩
    exact ⟨rfl, h, Below.refl B _⟩

set_option maxHeartbeats 1000000 in
set_option maxRecDepth 100000 in
theorem writeString_any (B b : Nat) (bs : List Value) (s : ByteArray) (w : World) (h : Lib.IsBuilder 72 5 B b bs w) (hlen : bs.length + s.size ≤ 140737488355328) (hBw : B ≤ w.heap.size) :
    Calls Tryz.prog 48 #[.pointer (some ⟨b, 0, none⟩), .string s] w fun e w' => e = .returned (.tuple #[.int .i64 s.size, .nilIface]) ∧ (Lib.BuilderAt 72 5 B b (.pointer (some ⟨b, 0, none⟩)) (bs ++ Lib.strCells s) w' ∧ Below B w w') := by
  obtain ⟨i0, hi, hz0, hz1, hz2⟩ := info_parts infoByte
  go_enter Tryz.func48, Tryz.ntmps48
  go_wp2_with (go_at_call 83; refine (copyCheck_any B b bs _ h).mono ?_)
  rintro e w1 ⟨rfl, h1, hb1⟩
  obtain ⟨hB, v, hbk, hown, hne⟩ := h1
  have c0 : w1.cell? ⟨b, 0, none⟩ = some (.pointer (some ⟨b, 0, none⟩)) := by rw [Lib.cell_of_heap hbk]; rfl
  have c1 : w1.cell? ⟨b, 1, none⟩ = some v := by rw [Lib.cell_of_heap hbk]; rfl
  go_wp2_with (at_builtin; refine Lib.wpList_append_own_string _ rfl _ _ 30 9 rfl B 5 i0 Tryz.underlying30 Tryz.underlying9 hi hz0 hz1 hz2 _ _ _ rfl hown s rfl ?c3 ?c4 ?c5 ?_)
  case c3 => unfold maxLen; omega
  case c4 => omega
  case c5 => have := hb1.size; omega
  intro v' w2 hown' hgrow _
  have hlt : b < w1.heap.size := by
    rcases Nat.lt_or_ge b w1.heap.size with h' | h'
    · exact h'
    · simp [Array.getElem?_eq_none h'] at hbk
  have hb2 : w2.heap[b]? = some (.cells #[.pointer (some ⟨b, 0, none⟩), v] 72 (0, 0)) := by
    rw [hgrow.block b hlt (fun e => hne e.symm)]
    exact hbk
  have d0 : w2.cell? ⟨b, 0, none⟩ = some (.pointer (some ⟨b, 0, none⟩)) := by rw [Lib.cell_of_heap hb2]; rfl
  have d1 : w2.cell? ⟨b, 1, none⟩ = some v := by rw [Lib.cell_of_heap hb2]; rfl
  have f1 : w2.frozen? ⟨b, 1, none⟩ = false := Lib.frozen_of_heap hb2 1
  obtain ⟨ao, n', cap, rfl⟩ : ∃ ao n' cap, v' = .slice ao n' cap := by
    rcases hown'.2 with ⟨hv, _⟩ | ⟨g, cap, cur, hv, _⟩
    · exact ⟨_, _, _, hv⟩
    · exact ⟨_, _, _, hv⟩
  go_wp2
  go_ret2
  refine ⟨rfl, ?_, ?_⟩
  · exact Lib.BuilderAt.put (T := 72) (e := 5) hB hb2 (bs' := bs ++ Lib.strCells s) (by simpa [Lib.strCells_length] using hown') (by decide)
  · exact (hb1.grown hgrow (by have := hb1.size; omega) (fun k hk => (hown.lt k hk).1)).setCell (p := ⟨b, 1, none⟩) hB _
end Go.Proofs.YtcdbeepphdfipaaGreatDoor

namespace Go.Proofs.YtcdbeepphdfipaaGreatDoor
open Go.Shelf Go.RowKit
set_option linter.unusedVariables false

set_option maxHeartbeats 1000000 in
set_option maxRecDepth 100000 in
theorem writeByte_any (B b : Nat) (bs : List Value) (c : Int) (w : World) (h : Lib.IsBuilder 72 5 B b bs w) (hlen : bs.length + 1 ≤ 140737488355328) (hBw : B ≤ w.heap.size) :
    Calls Tryz.prog 50 #[.pointer (some ⟨b, 0, none⟩), .int .u8 c] w fun e w' => e = .returned .nilIface ∧ (Lib.BuilderAt 72 5 B b (.pointer (some ⟨b, 0, none⟩)) (bs ++ [.int .u8 c]) w' ∧ Below B w w') := by
  obtain ⟨i0, hi, hz0, hz1, hz2⟩ := info_parts infoByte
  go_enter Tryz.func50, Tryz.ntmps50
  go_wp2_with (go_at_call 83; refine (copyCheck_any B b bs _ h).mono ?_)
  rintro e w1 ⟨rfl, h1, hb1⟩
  obtain ⟨hB, v, hbk, hown, hne⟩ := h1
  have c0 : w1.cell? ⟨b, 0, none⟩ = some (.pointer (some ⟨b, 0, none⟩)) := by rw [Lib.cell_of_heap hbk]; rfl
  have c1 : w1.cell? ⟨b, 1, none⟩ = some v := by rw [Lib.cell_of_heap hbk]; rfl
  have hnc : (w1.alloc (.cells #[.int .u8 c] 5)).cell? ⟨w1.heap.size, 0, none⟩ = some (.int .u8 c) := by rw [Lib.cell_of_heap (heap_alloc_new w1 _)]; rfl
  have hlt : b < w1.heap.size := by
    rcases Nat.lt_or_ge b w1.heap.size with h' | h'
    · exact h'
    · simp [Array.getElem?_eq_none h'] at hbk
  have hbk1 : (w1.alloc (.cells #[.int .u8 c] 5)).heap[b]? = some (.cells #[.pointer (some ⟨b, 0, none⟩), v] 72 (0, 0)) := by
    rw [Below.heap_alloc _ _ _ hlt]; exact hbk
  go_wp2_with (at_builtin; refine wpList_append_own _ rfl _ _ 30 rfl B 5 i0 (.int .u8 0) 1 1 Tryz.underlying30 hi hz0 hz1 hz2 rfl (Nat.succ_pos 0) _ _ _ rfl (hown.alloc _) ⟨w1.heap.size, 0, none⟩ 1 1 [.int .u8 c] rfl rfl ?c1 ?c2 ?c3 ?c4 ?c5 ?_)
  case c1 =>
    intro j u hj
    match j, hj with
    | 0, hj =>
      simp at hj; subst hj
      exact hnc
  case c2 => intro u hu; simp at hu; subst hu; rfl
  case c3 => unfold maxLen; omega
  case c4 => omega
  case c5 => have := hb1.size; rw [World.size_alloc]; omega
  intro v' w2 hown' hgrow _
  have hb2 : w2.heap[b]? = some (.cells #[.pointer (some ⟨b, 0, none⟩), v] 72 (0, 0)) := by
    rw [hgrow.block b (by rw [World.size_alloc]; omega) (fun e => hne e.symm)]
    exact hbk1
  have d0 : w2.cell? ⟨b, 0, none⟩ = some (.pointer (some ⟨b, 0, none⟩)) := by rw [Lib.cell_of_heap hb2]; rfl
  have d1 : w2.cell? ⟨b, 1, none⟩ = some v := by rw [Lib.cell_of_heap hb2]; rfl
  have f1 : w2.frozen? ⟨b, 1, none⟩ = false := Lib.frozen_of_heap hb2 1
  obtain ⟨ao, n', cap, rfl⟩ : ∃ ao n' cap, v' = .slice ao n' cap := by
    rcases hown'.2 with ⟨hv, _⟩ | ⟨g, cap, cur, hv, _⟩
    · exact ⟨_, _, _, hv⟩
    · exact ⟨_, _, _, hv⟩
  go_wp2
  go_ret
  refine ⟨rfl, ?_, ?_⟩
  · exact Lib.BuilderAt.put (T := 72) (e := 5) hB hb2 (bs' := bs ++ [.int .u8 c]) (by simpa using hown') (by decide)
  · exact ((hb1.alloc (by have := hb1.size; omega) _).grown hgrow (by have := hb1.size; rw [World.size_alloc]; omega) (fun k hk => (hown.lt k hk).1)).setCell (p := ⟨b, 1, none⟩) hB _
end Go.Proofs.YtcdbeepphdfipaaGreatDoor

namespace Go.Proofs.YtcdbeepphdfipaaGreatDoor
open Go.RowKit
set_option linter.unusedVariables false

theorem byteCells_append (a b : List UInt8) : Lib.byteCells a ++ Lib.byteCells b = Lib.byteCells (a ++ b) := by simp [Lib.byteCells]
theorem strCells_bs (a : List UInt8) : Lib.strCells (bs a) = Lib.byteCells a := by rw [Lib.strCells_eq, bs_list]

theorem itoa_any (x : Int) (h0 : 0 ≤ x) (h9 : x ≤ 9) (w : World) :
    Calls Tryz.prog 37 #[.int .i64 x] w fun e w' => e = .returned (.string (bs [digB x])) ∧ w = w' := by
  obtain ⟨n, rfl⟩ : ∃ n : Nat, x = n := ⟨x.toNat, by omega⟩
  refine (Tryz.strconv_Itoa_small n (by omega) w).mono ?_
  rintro e w' ⟨rfl, rfl⟩
  exact ⟨by rw [dec_small n (by omega)]; rfl, rfl⟩

set_option maxHeartbeats 1000000 in
theorem digits_any (v : Value) (xs : List Int) (w : World) (hr : IsI w v xs) (hd : ∀ k, k < xs.length → 0 ≤ gi xs k ∧ gi xs k ≤ 9) (h7 : xs.length ≤ 7) :
    Calls Tryz.prog 36 #[v] w fun e w' => e = .returned (.string (bs (rowT xs))) ∧ New w w' := by
  obtain ⟨ao, n, cap, rfl, HN, hn⟩ := hr.shape
  have hn7 : n ≤ 7 := by rw [HN.out]; exact h7
  have HR := Lib.hid hr
  have HD := Lib.hid hd
  have h1 : New w (w.alloc (.cells #[.pointer none, .slice none 0 0] 72)) := New.alloc _ _
  have hB := Lib.fresh_isBuilder 72 5 w
  clear hr hd h7
  go_enter Tryz.func36, Tryz.ntmps36
  go_wp2_with fail
  go_loopw [8] (fun t8 wr => ∃ k : Nat, t8 = .int .i64 k ∧ k ≤ n ∧ Hid (Lib.IsBuilder 72 5 w.heap.size w.heap.size (Lib.byteCells (rowT (xs.take k))) wr ∧ New w wr)) (fun t8 _ => n - (intOf t8).toNat)
  case atStart => exact ⟨0, rfl, Nat.zero_le _, hB, h1⟩
  case round =>
    obtain ⟨k, rfl, hk, HL⟩ := hrel
    by_cases hkn : k < n
    · obtain ⟨b, o, rfl, ck⟩ := (HR.out.new HL.out.2).at (i := k) hkn
      obtain ⟨x, hx⟩ : ∃ x, gi xs k = x := ⟨_, rfl⟩
      rw [hx] at ck
      have hdx : 0 ≤ x ∧ x ≤ 9 := by rw [← hx]; exact HD.out k (by rw [← HN.out]; exact hkn)
      have HX := Lib.hid hx
      clear hx
      go_wp2_with (go_at_call 37; refine (itoa_any x hdx.1 hdx.2 _).mono ?_; rintro e w' ⟨rfl, rfl⟩)
      refine (writeString_any _ _ _ _ _ HL.out.1 ?_ HL.out.2.size).mono ?_
      · rw [bs_size, Lib.byteCells_length, rowT, List.length_map, List.length_take]
        simp
        omega
      rintro e w2 ⟨rfl, hb2, hl2⟩
      have hn2 : New w w2 := Chg.of_below (Below.trans (Chg.below HL.out.2) hl2)
      have H2 := Lib.hid (And.intro hb2 hn2)
      clear hb2 hn2 hl2
      go_wp2_with fail
      go_roundw
      case rel => exact ⟨k + 1, by go_num, by omega, .inr (by
        have h := H2.out.1
        rw [strCells_bs, byteCells_append, ← HX.out, ← rowT_take (by rw [← HN.out]; exact hkn)] at h
        exact h), H2.out.2⟩
      case measure => simp [intOf]; omega
    · obtain rfl : k = n := by omega
      go_wp2_with fail
      refine (Tryz.Builder_String_any _ _ _ _ HL.out.1 HL.out.2.size).mono ?_
      rintro e w2 ⟨rfl, hl2⟩
      have hn2 : New w w2 := Chg.of_below (Below.trans (Chg.below HL.out.2) hl2)
      have H2 := Lib.hid hn2
      clear hn2 hl2
      go_wp2_with fail
      go_ret
      exact ⟨ret_str (by rw [HN.out, rowT_all]; rfl), H2.out⟩

end Go.Proofs.YtcdbeepphdfipaaGreatDoor

namespace Go.Proofs.YtcdbeepphdfipaaGreatDoor
open Go.RowKit
set_option linter.unusedVariables false

/-- The text of a row. -/
def rowS (r : List Int) : ByteArray := bs (rowT r)
theorem rows_map (rows : List (List Int)) : (rows.map rowS).map (·.data.toList) = rows.map rowT := by
  rw [List.map_map]
  exact List.map_congr_left (fun r _ => bs_list _)

set_option maxHeartbeats 1000000 in
theorem specCodeText_any (p : Int) (v : Value) (rows : List (List Int)) (w : World) (hr : IsR w v rows) :
    Calls Tryz.prog 15 #[.agg #[.int .i64 p, v]] w fun e w' => (∃ s, e = .returned (.string s) ∧ TxtR p rows s) ∧ New w w' := by
  obtain ⟨ao, n, cap, rfl, HN, hn⟩ := hr.shape
  have HR := Lib.hid hr
  have h1 : New w (w.alloc (.cells #[.int .i64 p, .slice ao n cap] 24)) := New.alloc _ _
  have b1 := Blk2.alloc w (.int .i64 p) (.slice ao n cap) 24
  clear hr
  go_enter Tryz.func15, Tryz.ntmps15
  go_wp2_with fail
  refine (validCode_any p _ rows _ (HR.out.new h1)).mono ?_
  rintro e w2 ⟨⟨b, rfl, hb⟩, hn2⟩
  have h2 := h1.trans hn2
  obtain ⟨c0, c1, _, _⟩ := (b1.new hn2).cells
  have HB := Lib.hid hb
  have H2 := Lib.hid h2
  clear hb h1 hn2 b1 h2
  cases b with
  | false =>
    go_wp2_with fail
    go_ret
    exact ⟨⟨_, rfl, fun h => absurd (HB.out.2 h) (by simp), fun _ => rfl⟩, H2.out⟩
  | true =>
    have hv := HB.out.1 rfl
    obtain ⟨hp, hd, r1, r6, h7⟩ := hv.digs
    have hle := rowsTo_le h7 rows.length (Nat.le_refl _)
    have HV := Lib.hid hv
    have hnum := Lib.hid (fun W => number_any p hp.1 hp.2 W)
    have hrow := Lib.hid (fun W h => rowsText_any (.slice ao n cap) rows W h hd r6 h7)
    obtain ⟨S, hS⟩ : ∃ S, S = bs (rowsTo rows rows.length) := ⟨_, rfl⟩
    have hS1 : S.size ≤ 48 := by rw [hS, bs_size]; omega
    rw [← hS] at hrow
    have HS := Lib.hid hS
    have a1 := fun w => run_string_add_sum (P := Tryz.prog) w (bs [digB p]) ⟨#[58]⟩ (by rw [bs_size]; show 1 + 1 ≤ _; omega)
    have a2 := fun w => run_string_add_sum (P := Tryz.prog) w (bs [digB p] ++ ⟨#[58]⟩) S (by rw [ByteArray.size_append, bs_size]; show 1 + 1 + _ ≤ _; omega)
    clear hv hp hd r1 r6 h7 hle hS hS1
    go_wp2_with fail
    go_quiet (first | (go_at_call 40; exact Calls.quiet_of_same ((hnum.out _).mono (fun e w' h => ⟨h.1, h.2.symm⟩))) | (go_at_call 41; exact Calls.quiet_of_same ((hrow.out _ (HR.out.new (H2.out.trans (New.drewN _ _)))).mono (fun e w' h => ⟨h.1, h.2.symm⟩))))
    go_wp2_with fail
    go_ret
    refine ⟨⟨_, rfl, fun _ => ?_, fun h => absurd HV.out h⟩, H2.out.trans (New.drewN _ _)⟩
    rw [HS.out, show (⟨#[58]⟩ : ByteArray) = bs [58] from rfl, bs_append, bs_append]
    rfl

set_option maxHeartbeats 2000000 in
theorem implCodeText_any (p : Int) (v : Value) (rows : List (List Int)) (w : World) (hr : IsR w v rows) :
    Calls Tryz.prog 14 #[.agg #[.int .i64 p, v]] w fun e w' => (∃ s, e = .returned (.string s) ∧ TxtR p rows s) ∧ New w w' := by
  obtain ⟨ao, n, cap, rfl, HN, hn⟩ := hr.shape
  have HR := Lib.hid hr
  have h1 : New w (w.alloc (.cells #[.int .i64 p, .slice ao n cap] 24)) := New.alloc _ _
  have b1 := Blk2.alloc w (.int .i64 p) (.slice ao n cap) 24
  clear hr
  go_enter Tryz.func14, Tryz.ntmps14
  go_wp2_with fail
  refine (implValidCode_any p _ rows _ (HR.out.new h1)).mono ?_
  rintro e w2 ⟨⟨b, rfl, hb⟩, hn2⟩
  have h2 := h1.trans hn2
  have B2 := Lib.hid (b1.new hn2)
  obtain ⟨c0, c1, _, _⟩ := B2.out.cells
  have HB := Lib.hid hb
  have H2 := Lib.hid h2
  clear hb h1 hn2 b1 h2
  cases b with
  | false =>
    go_wp2_with fail
    go_ret
    exact ⟨⟨_, rfl, fun h => absurd (HB.out.2 h) (by simp), fun _ => rfl⟩, H2.out⟩
  | true =>
    have hv := HB.out.1 rfl
    have hn6 : n ≤ 6 := by rw [HN.out]; exact hv.digs.2.2.2.1
    have HV := Lib.hid hv
    clear hv
    go_wp2_with (at_make; refine wpList_mk rfl _ _ _ rfl tyStr _ _ _ _ 0 n rfl rfl rfl rfl (Nat.zero_le _) (by omega) ?_; intro v3 w3 hv3 ho3 hn3 hs3; subst hv3; have HO3 := Lib.hid (And.intro ho3 hn3); clear ho3 hn3; obtain ⟨d0, d1, _, _⟩ := (B2.out.new HO3.out.2).cells)
    go_loopw [3, 16] (fun t3 t16 wr => ∃ (i l c : Nat) (ad : Option Addr), t3 = .slice ad l c ∧ t16 = .int .i64 i ∧ i ≤ n ∧ Hid (Own wr 9 (.slice ad l c) ((rows.take i).map (fun r => Value.string (rowS r))) ∧ From w.heap.size (.slice ad l c) ∧ New w wr ∧ Blk2 wr w.heap.size (.int .i64 p) (.slice ao n cap) 24)) (fun _ t16 _ => n - (intOf t16).toNat)
    case atStart => exact ⟨0, _, _, _, rfl, rfl, Nat.zero_le _, HO3.out.1, fun g hg => by simp [Value.ownBlock] at hg; have := H2.out.size; omega, H2.out.trans HO3.out.2, B2.out.new HO3.out.2⟩
    case round =>
      obtain ⟨i, l, c, ad, rfl, rfl, hi, HL⟩ := hrel
      by_cases hin : i < n
      · obtain ⟨b, o, u, rfl, ck, hu⟩ := (HR.out.new HL.out.2.2.1).at (i := i) hin
        have hir : i < rows.length := by rw [← HN.out]; exact hin
        have KD := Lib.hid (digits_any u (gr rows i) wr hu (fun k hk => HV.out.digs.2.1 i k hir hk) (HV.out.digs.2.2.2.2 i hir))
        have HI := Lib.hid hir
        clear hu hir
        go_wp2_with fail
        refine KD.out.mono ?_
        rintro e w4 ⟨rfl, hn4⟩
        have H4 := Lib.hid hn4
        clear hn4
        go_wp2_with (at_builtin; refine wpList_app1 rfl _ _ _ rfl tyStr w4 (HL.out.1.new H4.out) rfl _ _ rfl rfl rfl (by rw [List.length_map, List.length_take]; have := HI.out; omega) ?_; intro v5 w5 k1 k2 k3; obtain ⟨a5, c5, hv5, _, _⟩ := k1.shape'; have K5 := Lib.hid (And.intro k1 (And.intro k2 k3)); have HV5 := Lib.hid hv5; clear k1 k2 k3 hv5)
        obtain ⟨l5, hl5⟩ : ∃ l5, v5 = .slice a5 l5 c5 := ⟨_, HV5.out⟩
        subst hl5
        clear HV5
        go_wp2_with fail
        go_roundw
        case rel => exact ⟨i + 1, l5, c5, a5, rfl, by go_num, by omega, (by
          rw [List.take_add_one, List.map_append, List.getElem?_eq_getElem HI.out]
          have h := K5.out.1
          rw [gr_lt HI.out] at h
          exact h), (fun g hg => by
          rcases K5.out.2.2 g hg with h | h
          · exact HL.out.2.1 g h
          · have h1 := HL.out.2.2.1.size
            have h2 := H4.out.size
            omega), New.then (HL.out.2.2.1.trans H4.out) K5.out.2.1 (fun k hk => HL.out.2.1 k hk), (HL.out.2.2.2.new H4.out).chg K5.out.2.1 (fun e => own_blk2 (HL.out.1.new H4.out) (HL.out.2.2.2.new H4.out) (by decide) _ e rfl)⟩
        case measure => simp [intOf]; omega
      · obtain rfl : i = n := by omega
        obtain ⟨hp, hd, r1, r6, h7⟩ := HV.out.digs
        have hle := rowsTo_le h7 rows.length (Nat.le_refl _)
        obtain ⟨S, hS⟩ : ∃ S, S = bs (rowsTo rows rows.length) := ⟨_, rfl⟩
        have hS1 : S.size ≤ 48 := by rw [hS, bs_size]; omega
        have ho := HL.out.1
        rw [HN.out, List.take_length] at ho
        have hne : rows.map (fun r => Value.string (rowS r)) ≠ [] := by
          intro h
          have h2 := congrArg List.length h
          rw [List.length_map, List.length_nil] at h2
          omega
        obtain ⟨g, cp, hv5, hle5, _⟩ := ho.shape hne
        rw [List.length_map] at hv5 hle5
        simp only [Value.slice.injEq] at hv5
        obtain ⟨rfl, hl5, rfl⟩ := hv5
        have KJ : Hid (Calls Tryz.prog 38 #[.slice (some ⟨g, 0, none⟩) l c, .string ⟨#[47]⟩] wr fun e w' => e = .returned (.string S) ∧ New wr w') := by
          have e1 : Lib.join ((rows.map rowS).map (·.data.toList)) (⟨#[47]⟩ : ByteArray).data.toList = rowsTo rows rows.length := by
            rw [rows_map]; exact rowsTo_join rows
          have h := Tryz.strings_Join g 0 c (rows.map rowS) ⟨#[47]⟩ wr (fun j x hj => by
            have hj' : j < rows.length := by
              rcases Nat.lt_or_ge j rows.length with h | h
              · exact h
              · rw [List.getElem?_eq_none (by rw [List.length_map]; exact h)] at hj; cases hj
            rw [Nat.zero_add, (ho.cell (by rw [List.length_map]; exact hj')).1, gv_lt (by rw [List.length_map]; exact hj')]
            rw [List.getElem?_map, List.getElem?_eq_getElem hj'] at hj
            simp only [Option.map_some, Option.some.injEq] at hj
            rw [List.getElem_map, hj]) (ho.lt rfl) (by rw [List.length_map]; omega) (by rw [List.length_map]; omega) (by rw [e1]; omega)
          rw [e1, List.length_map] at h
          refine Lib.hid ?_
          rw [hl5]
          exact h.mono (fun e w' h => ⟨by rw [h.1, hS]; rfl, Chg.of_below h.2⟩)
        have HS := Lib.hid hS
        have a1 := fun w => run_string_add_sum (P := Tryz.prog) w (bs [digB p]) ⟨#[58]⟩ (by rw [bs_size]; show 1 + 1 ≤ _; omega)
        have a2 := fun w => run_string_add_sum (P := Tryz.prog) w (bs [digB p] ++ ⟨#[58]⟩) S (by rw [ByteArray.size_append, bs_size]; show 1 + 1 + _ ≤ _; omega)
        obtain ⟨e0, e1, _, _⟩ := HL.out.2.2.2.cells
        have hp0 := hp.1
        have hp9 := hp.2
        clear hp hd r1 r6 h7 hle hS hS1 ho hne hle5 hl5 d0 d1 c0 c1
        go_wp2_with (go_at_call 37; refine (itoa_any p hp0 hp9 _).mono ?_; rintro e w' ⟨rfl, rfl⟩)
        refine KJ.out.mono ?_
        rintro e w6 ⟨rfl, hn6'⟩
        have H6 := Lib.hid hn6'
        clear hn6'
        go_wp2_with fail
        go_ret
        refine ⟨⟨_, rfl, fun _ => ?_, fun h => absurd HV.out h⟩, HL.out.2.2.1.trans H6.out⟩
        rw [HS.out, show (⟨#[58]⟩ : ByteArray) = bs [58] from rfl, bs_append, bs_append]
        rfl
end Go.Proofs.YtcdbeepphdfipaaGreatDoor
