/- The reference's pieces of a text: splitAt, digits. -/
import Derived.Test.YtcdbeepphdfipaaGreatDoorParsB
import Derived.Test.YtcdbeepphdfipaaGreatDoorTxtA
import Derived.Test.YtcdbeepphdfipaaGreatDoorLeaf
import Derived.Laws.Strings
import Derived.Laws.Strings2
import Derived.Laws.Strings3
namespace Go.Proofs.YtcdbeepphdfipaaGreatDoor
open Go.RowKit
set_option linter.unusedVariables false

theorem run_idx (L : List UInt8) (i : Nat) (h : i < L.length) : ∃ x : UInt8, L[i]? = some x ∧ ∀ w, (Instr.index 9 (.string (bs L)) (.int .i64 (i : Int))).run Tryz.prog w = .ok (.int .u8 (x.toNat : Nat)) w := by
  refine ⟨L[i], List.getElem?_eq_getElem h, fun w => ?_⟩
  have hb : (0 : Int) ≤ (i : Int) ∧ (i : Int) < ((bs L).size : Int) := by rw [bs_size]; omega
  rw [run_index_string w _ _ _ _ Tryz.underlying9, dif_pos hb]
  have e : (bs L)[(i : Int).toNat]'(by rw [bs_size]; simpa using h) = L[i] := by
    simp [bs, ByteArray.getElem_eq_getElem_data]
  rw [e]
theorem run_slc (L : List UInt8) (f i : Nat) (h1 : f ≤ i) (h2 : i ≤ L.length) (w : World) : (Instr.slice 9 (.string (bs L)) (some (.int .i64 (f : Int))) (some (.int .i64 (i : Int))) none).run Tryz.prog w = .ok (.string (bs ((L.drop f).take (i - f)))) w := by
  rw [run_slice_string w _ _ _ _ _ _ Tryz.underlying9 (by omega) (by omega) (by rw [bs_size]; omega), bs, ByteArray.extract_mk]
  simp [bs]
theorem run_slf (L : List UInt8) (f : Nat) (h1 : f ≤ L.length) (w : World) : (Instr.slice 9 (.string (bs L)) (some (.int .i64 (f : Int))) none none).run Tryz.prog w = .ok (.string (bs (L.drop f))) w := by
  rw [run_slice_string_from_if w _ _ _ _ Tryz.underlying9, if_pos (by rw [bs_size]; omega), bs_size, bs, ByteArray.extract_mk]
  have e : List.take (L.length - f) (List.drop f L) = List.drop f L := List.take_of_length_le (by rw [List.length_drop]; exact Nat.le_refl _)
  simp [bs, e]

theorem split_step {c : UInt8} {L : List UInt8} {f i : Nat} (h1 : f ≤ i) (h2 : L[i]? = some c) (h3 : c ∉ (L.drop f).take (i - f)) : splitB c (L.drop f) = (L.drop f).take (i - f) :: splitB c (L.drop (i + 1)) := by
  have hi : i < L.length := by
    rcases Nat.lt_or_ge i L.length with h | h
    · exact h
    · rw [List.getElem?_eq_none h] at h2; cases h2
  have e : L.drop f = (L.drop f).take (i - f) ++ c :: L.drop (i + 1) := by
    have e1 := (List.take_append_drop (i - f) (L.drop f)).symm
    rw [List.drop_drop, show f + (i - f) = i by omega] at e1
    rw [List.getElem?_eq_getElem hi] at h2
    simp only [Option.some.injEq] at h2
    rw [List.drop_eq_getElem_cons hi, h2] at e1
    exact e1
  conv => lhs; rw [e]
  exact splitB_app _ h3
theorem notin_step {c x : UInt8} {L : List UInt8} {f i : Nat} (h1 : f ≤ i) (h2 : L[i]? = some x) (hx : x ≠ c) (h3 : c ∉ (L.drop f).take (i - f)) : c ∉ (L.drop f).take (i + 1 - f) := by
  rw [show i + 1 - f = (i - f) + 1 by omega, List.take_add_one, List.getElem?_drop, show f + (i - f) = i by omega, h2]
  simp only [Option.toList_some, List.mem_append, List.mem_singleton, not_or]
  exact ⟨h3, fun e => hx e.symm⟩

/-- The values of texts. -/
def strV (ls : List (List UInt8)) : List Value := ls.map fun l => .string (bs l)

set_option maxHeartbeats 2000000 in
theorem splitAt_any (L : List UInt8) (c : UInt8) (w : World) (hL : L.length ≤ 2000000) :
    Calls Tryz.prog 56 #[.string (bs L), .int .u8 (c.toNat : Nat)] w fun e w' => ∃ v, e = .returned v ∧ Own w' 9 v (strV (splitB c L)) ∧ From w.heap.size v ∧ New w w' := by
  obtain ⟨S, hS⟩ : ∃ S, S = bs L := ⟨_, rfl⟩
  have hn : S.size = L.length := by rw [hS, bs_size]
  have hb : S.size ≤ 2000000 := by omega
  have hix := run_idx L
  have hsc := run_slc L
  have hsf := run_slf L
  rw [← hS] at hix hsc hsf ⊢
  obtain ⟨b, hbc⟩ : ∃ b, b = c.toNat := ⟨_, rfl⟩
  rw [← hbc]
  have HB := Lib.hid hbc
  have HN := Lib.hid hn
  have HX := Lib.hid hix
  have HC := Lib.hid hsc
  have HF := Lib.hid hsf
  clear hS hn hix hsc hsf hbc hL
  go_enter Tryz.func56, Tryz.ntmps56
  go_wp2_with fail
  go_loopw [5, 6, 7] (fun t5 t6 t7 wr => ∃ (f i l cc : Nat) (ad : Option Addr) (out : List (List UInt8)), t5 = .slice ad l cc ∧ t6 = .int .i64 f ∧ t7 = .int .i64 i ∧ f ≤ i ∧ i ≤ S.size ∧ out.length ≤ f ∧ Hid (Own wr 9 (.slice ad l cc) (strV out) ∧ From w.heap.size (.slice ad l cc) ∧ New w wr ∧ splitB c L = out ++ splitB c (L.drop f) ∧ c ∉ (L.drop f).take (i - f))) (fun _ _ t7 _ => S.size - (intOf t7).toNat)
  case atStart => exact ⟨0, 0, _, _, _, [], rfl, rfl, rfl, Nat.le_refl _, Nat.zero_le _, Nat.le_refl _, Own.empty _ _, From.new _ _ _, New.alloc _ _, rfl, by simp⟩
  case round =>
    obtain ⟨f, i, l, cc, ad, out, rfl, rfl, rfl, hfi, hi, hol, HL⟩ := hrel
    by_cases hin : i < S.size
    · obtain ⟨x, hx1, hx2⟩ := HX.out i (by rw [← HN.out]; exact hin)
      have hsl := HC.out f i hfi (by rw [← HN.out]; exact hi)
      obtain ⟨y, hy⟩ : ∃ y, y = x.toNat := ⟨_, rfl⟩
      rw [← hy] at hx2
      have H1 := Lib.hid hx1
      have HY := Lib.hid hy
      clear hx1 hy
      by_cases hyb : y = b
      · have hd : ((y : Int) == (b : Int)) = true := by simp; omega
        have hxc : Hid (x = c) := UInt8.toNat_inj.1 (by rw [← HY.out, ← HB.out]; exact hyb)
        obtain ⟨z, hz⟩ : ∃ z, z = bs ((L.drop f).take (i - f)) := ⟨_, rfl⟩
        rw [← hz] at hsl
        have HZ := Lib.hid hz
        clear hz
        go_wp2_with (at_builtin; refine wpList_app1 rfl _ _ _ rfl tyStr wr HL.out.1 rfl _ _ rfl rfl rfl (by rw [strV, List.length_map]; omega) ?_; intro v5 w5 k1 k2 k3; obtain ⟨a5, c5, hv5, _, _⟩ := k1.shape'; have K5 := Lib.hid (And.intro k1 (And.intro k2 k3)); have HV5 := Lib.hid hv5; clear k1 k2 k3 hv5)
        obtain ⟨l5, hl5⟩ : ∃ l5, v5 = .slice a5 l5 c5 := ⟨_, HV5.out⟩
        subst hl5
        clear HV5
        go_wp2_with fail
        go_roundw
        case rel => exact ⟨i + 1, i + 1, l5, c5, a5, out ++ [(L.drop f).take (i - f)], rfl, by go_num, by go_num, Nat.le_refl _, by omega, by rw [List.length_append]; show out.length + 1 ≤ _; omega, (by
          have h := K5.out.1
          rw [HZ.out] at h
          rw [strV, List.map_append]
          exact h), (fun g hg => by
          rcases K5.out.2.2 g hg with h | h
          · exact HL.out.2.1 g h
          · have h1 := HL.out.2.2.1.size
            omega), New.then HL.out.2.2.1 K5.out.2.1 (fun k hk => HL.out.2.1 k hk), (by
          rw [HL.out.2.2.2.1, split_step hfi (by rw [H1.out, hxc.out]) HL.out.2.2.2.2, List.append_assoc]; rfl), (by simp)⟩
        case measure => simp [intOf]; omega
      · have hd : ((y : Int) == (b : Int)) = false := by simp; omega
        have hxc : Hid (x ≠ c) := fun e => hyb (by rw [HY.out, HB.out, e])
        clear hsl
        go_wp2_with fail
        go_roundw
        case rel => exact ⟨f, i + 1, l, cc, ad, out, rfl, rfl, by go_num, by omega, by omega, hol, HL.out.1, HL.out.2.1, HL.out.2.2.1, HL.out.2.2.2.1, notin_step hfi H1.out hxc.out HL.out.2.2.2.2⟩
        case measure => simp [intOf]; omega
    · obtain rfl : i = S.size := by omega
      have hsl := HF.out f (by rw [← HN.out]; exact hfi)
      obtain ⟨z, hz⟩ : ∃ z, z = bs (L.drop f) := ⟨_, rfl⟩
      rw [← hz] at hsl
      have HZ := Lib.hid hz
      clear hz
      go_wp2_with (at_builtin; refine wpList_app1 rfl _ _ _ rfl tyStr wr HL.out.1 rfl _ _ rfl rfl rfl (by rw [strV, List.length_map]; omega) ?_; intro v5 w5 k1 k2 k3; have K5 := Lib.hid (And.intro k1 (And.intro k2 k3)); clear k1 k2 k3)
      go_ret
      exact ⟨_, rfl, (by
          have h := K5.out.1
          have h3 := HL.out.2.2.2.2
          rw [HN.out, List.take_of_length_le (by rw [List.length_drop]; exact Nat.le_refl _)] at h3
          rw [HL.out.2.2.2.1, splitB_none h3, strV, List.map_append]
          rw [HZ.out] at h
          exact h), (fun g hg => by
          rcases K5.out.2.2 g hg with h | h
          · exact HL.out.2.1 g h
          · have h1 := HL.out.2.2.1.size
            omega), New.then HL.out.2.2.1 K5.out.2.1 (fun k hk => HL.out.2.1 k hk)⟩

set_option maxHeartbeats 2000000 in
theorem specDigits_any (L : List UInt8) (w : World) (hL : L.length ≤ 2000000) :
    Calls Tryz.prog 57 #[.string (bs L)] w fun e w' => ∃ v, e = .returned v ∧ Own w' 3 v ((sUn L).map (Value.int .i64)) ∧ From w.heap.size v ∧ New w w' := by
  obtain ⟨S, hS⟩ : ∃ S, S = bs L := ⟨_, rfl⟩
  have hn : S.size = L.length := by rw [hS, bs_size]
  have hb : S.size ≤ 2000000 := by omega
  have hix := run_idx L
  rw [← hS] at hix ⊢
  have HN := Lib.hid hn
  have HX := Lib.hid hix
  clear hS hn hix hL
  go_enter Tryz.func57, Tryz.ntmps57
  go_wp2_with fail
  go_loopw [3, 4] (fun t3 t4 wr => ∃ (i l cc : Nat) (ad : Option Addr) (out : List Int), t3 = .slice ad l cc ∧ t4 = .int .i64 i ∧ i ≤ S.size ∧ out.length = i ∧ Hid (Own wr 3 (.slice ad l cc) (out.map (Value.int .i64)) ∧ From w.heap.size (.slice ad l cc) ∧ New w wr ∧ out = sUn (L.take i))) (fun _ t4 _ => S.size - (intOf t4).toNat)
  case atStart => exact ⟨0, _, _, _, [], rfl, rfl, Nat.zero_le _, rfl, Own.empty _ _, From.new _ _ _, New.alloc _ _, rfl⟩
  case round =>
    obtain ⟨i, l, cc, ad, out, rfl, rfl, hi, hol, HL⟩ := hrel
    by_cases hin : i < S.size
    · obtain ⟨x, hx1, hx2⟩ := HX.out i (by rw [← HN.out]; exact hin)
      obtain ⟨y, hy⟩ : ∃ y, y = x.toNat := ⟨_, rfl⟩
      rw [← hy] at hx2
      have hy256 : y < 256 := by rw [hy]; exact x.toNat_lt
      have HST : Hid (∀ z, z = sDig x → out ++ [z] = sUn (L.take (i + 1))) := by
        intro z hz
        rw [List.take_add_one, hx1, HL.out.2.2.2, sUn, sUn, List.map_append, hz]
        rfl
      have HSD : Hid (sDig x = if 48 ≤ y ∧ y ≤ 57 then (y : Int) - 48 else if y = 46 then -1 else -2) := by
        show sDig x = _
        rw [hy]; rfl
      clear hx1 hy
      by_cases c1 : 48 ≤ y ∧ y ≤ 57
      · have hz : Hid ((y : Int) - 48 = sDig x) := by show _ = _; rw [HSD.out, if_pos c1]
        rcases c1 with ⟨c1, c2⟩
        go_wp2_with (at_builtin; refine wpList_app1 rfl _ _ _ rfl tyInt wr HL.out.1 rfl _ _ rfl rfl rfl (by rw [List.length_map, hol]; omega) ?_; intro v5 w5 k1 k2 k3; obtain ⟨a5, c5, hv5, _, _⟩ := k1.shape'; have K5 := Lib.hid (And.intro k1 (And.intro k2 k3)); have HV5 := Lib.hid hv5; clear k1 k2 k3 hv5)
        obtain ⟨l5, hl5⟩ : ∃ l5, v5 = .slice a5 l5 c5 := ⟨_, HV5.out⟩
        subst hl5
        clear HV5
        go_wp2_with fail
        go_roundw
        case rel => exact ⟨i + 1, l5, c5, a5, out ++ [(y : Int) - 48], rfl, by go_num, by omega, by rw [List.length_append, hol]; rfl, (by rw [List.map_append]; exact K5.out.1), (fun g hg => by
            rcases K5.out.2.2 g hg with h | h
            · exact HL.out.2.1 g h
            · have h1 := HL.out.2.2.1.size
              omega), New.then HL.out.2.2.1 K5.out.2.1 (fun k hk => HL.out.2.1 k hk), HST.out _ hz.out⟩
        case measure => simp [intOf]; omega
      · by_cases c2 : y = 46
        · have hz : Hid ((-1 : Int) = sDig x) := by show _ = _; rw [HSD.out, if_neg c1, if_pos c2]
          subst c2
          go_wp2_with (at_builtin; refine wpList_app1 rfl _ _ _ rfl tyInt wr HL.out.1 rfl _ _ rfl rfl rfl (by rw [List.length_map, hol]; omega) ?_; intro v5 w5 k1 k2 k3; obtain ⟨a5, c5, hv5, _, _⟩ := k1.shape'; have K5 := Lib.hid (And.intro k1 (And.intro k2 k3)); have HV5 := Lib.hid hv5; clear k1 k2 k3 hv5)
          obtain ⟨l5, hl5⟩ : ∃ l5, v5 = .slice a5 l5 c5 := ⟨_, HV5.out⟩
          subst hl5
          clear HV5
          go_wp2_with fail
          go_roundw
          case rel => exact ⟨i + 1, l5, c5, a5, out ++ [-1], rfl, by go_num, by omega, by rw [List.length_append, hol]; rfl, (by rw [List.map_append]; exact K5.out.1), (fun g hg => by
            rcases K5.out.2.2 g hg with h | h
            · exact HL.out.2.1 g h
            · have h1 := HL.out.2.2.1.size
              omega), New.then HL.out.2.2.1 K5.out.2.1 (fun k hk => HL.out.2.1 k hk), HST.out _ hz.out⟩
          case measure => simp [intOf]; omega
        · have hz : Hid ((-2 : Int) = sDig x) := by show _ = _; rw [HSD.out, if_neg c1, if_neg c2]
          have hd : ((y : Int) == 46) = false := by simp; omega
          by_cases c3 : 48 ≤ y
          · have c4 : ¬ y ≤ 57 := fun h => c1 ⟨c3, h⟩
            go_wp2_with (at_builtin; refine wpList_app1 rfl _ _ _ rfl tyInt wr HL.out.1 rfl _ _ rfl rfl rfl (by rw [List.length_map, hol]; omega) ?_; intro v5 w5 k1 k2 k3; obtain ⟨a5, c5, hv5, _, _⟩ := k1.shape'; have K5 := Lib.hid (And.intro k1 (And.intro k2 k3)); have HV5 := Lib.hid hv5; clear k1 k2 k3 hv5)
            obtain ⟨l5, hl5⟩ : ∃ l5, v5 = .slice a5 l5 c5 := ⟨_, HV5.out⟩
            subst hl5
            clear HV5
            go_wp2_with fail
            go_roundw
            case rel => exact ⟨i + 1, l5, c5, a5, out ++ [-2], rfl, by go_num, by omega, by rw [List.length_append, hol]; rfl, (by rw [List.map_append]; exact K5.out.1), (fun g hg => by
              rcases K5.out.2.2 g hg with h | h
              · exact HL.out.2.1 g h
              · have h1 := HL.out.2.2.1.size
                omega), New.then HL.out.2.2.1 K5.out.2.1 (fun k hk => HL.out.2.1 k hk), HST.out _ hz.out⟩
            case measure => simp [intOf]; omega
          · clear c1
            go_wp2_with (at_builtin; refine wpList_app1 rfl _ _ _ rfl tyInt wr HL.out.1 rfl _ _ rfl rfl rfl (by rw [List.length_map, hol]; omega) ?_; intro v5 w5 k1 k2 k3; obtain ⟨a5, c5, hv5, _, _⟩ := k1.shape'; have K5 := Lib.hid (And.intro k1 (And.intro k2 k3)); have HV5 := Lib.hid hv5; clear k1 k2 k3 hv5)
            obtain ⟨l5, hl5⟩ : ∃ l5, v5 = .slice a5 l5 c5 := ⟨_, HV5.out⟩
            subst hl5
            clear HV5
            go_wp2_with fail
            go_roundw
            case rel => exact ⟨i + 1, l5, c5, a5, out ++ [-2], rfl, by go_num, by omega, by rw [List.length_append, hol]; rfl, (by rw [List.map_append]; exact K5.out.1), (fun g hg => by
              rcases K5.out.2.2 g hg with h | h
              · exact HL.out.2.1 g h
              · have h1 := HL.out.2.2.1.size
                omega), New.then HL.out.2.2.1 K5.out.2.1 (fun k hk => HL.out.2.1 k hk), HST.out _ hz.out⟩
            case measure => simp [intOf]; omega
    · obtain rfl : i = S.size := by omega
      go_wp2_with fail
      go_ret
      exact ⟨_, rfl, (by
        have h := HL.out.1
        rw [HL.out.2.2.2, HN.out, List.take_length] at h
        exact h), HL.out.2.1, HL.out.2.2.1⟩
end Go.Proofs.YtcdbeepphdfipaaGreatDoor
