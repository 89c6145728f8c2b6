/- Rows of texts. The reference's pieces of a text: splitAt, digits. A row of one's own is no block of a struct. The reference's ParseCode. The reference's ParseCode. -/
import Derived.Test.YtcdbeepphdfipaaGreatDoorLeaf
import Derived.Test.YtcdbeepphdfipaaGreatDoorPrsP
import Derived.Laws.Strings
import Derived.Laws.Strings2
import Derived.Laws.Strings3
import Derived.Test.YtcdbeepphdfipaaGreatDoorLawK
import Derived.Test.YtcdbeepphdfipaaGreatDoorGenB
import Derived.Deep.RegionLaw
import Derived.Deep.RegionHeld3
import Derived.Deep.CutBlock
import Derived.Deep.DeepCutAuto
namespace Go.Proofs.YtcdbeepphdfipaaGreatDoor
theorem tyStr : OneTy Tryz.prog 36 9 (.string ⟨#[]⟩) := OneTy.mk (n := 1) (b := 16) Tryz.underlying36 (by kernel_rfl) rfl (by decide) rfl
end Go.Proofs.YtcdbeepphdfipaaGreatDoor

namespace Go.Proofs.YtcdbeepphdfipaaGreatDoor
open Go.RowKit
set_option linter.unusedVariables false

theorem run_idx (L : List UInt8) (i : Nat) (h : i < L.length) : ∃ x : UInt8, L[i]? = some x ∧ ∀ w, (Instr.index 9 (.string (bs L)) (.int .i64 (i : Int))).run Tryz.prog w = .ok (.int .u8 (x.toNat : Nat)) w := by
  refine ⟨L[i], List.getElem?_eq_getElem h, fun w => ?_⟩
  have hb : (0 : Int) ≤ (i : Int) ∧ (i : Int) < ((bs L).size : Int) := by rw [bs_size]; omega
  rw [run_index_string w _ _ _ _ Tryz.underlying9, dif_pos hb]
  have e : (bs L)[(i : Int).toNat]'(by rw [bs_size]; simpa using h) = L[i] := by
    simp [bs, ByteArray.getElem_eq_getElem_data]
  rw [e]
theorem run_slc (L : List UInt8) (f i : Nat) (h1 : f ≤ i) (h2 : i ≤ L.length) (w : World) : (Instr.slice 9 (.string (bs L)) (some (.int .i64 (f : Int))) (some (.int .i64 (i : Int))) none).run Tryz.prog w = .ok (.string (bs ((L.drop f).take (i - f)))) w := by
  rw [run_slice_string w _ _ _ _ _ _ Tryz.underlying9 (by omega) (by omega) (by rw [bs_size]; omega), bs, ByteArray.extract_mk]
  simp [bs]
theorem run_slf (L : List UInt8) (f : Nat) (h1 : f ≤ L.length) (w : World) : (Instr.slice 9 (.string (bs L)) (some (.int .i64 (f : Int))) none none).run Tryz.prog w = .ok (.string (bs (L.drop f))) w := by
  rw [run_slice_string_from_if w _ _ _ _ Tryz.underlying9, if_pos (by rw [bs_size]; omega), bs_size, bs, ByteArray.extract_mk]
  have e : List.take (L.length - f) (List.drop f L) = List.drop f L := List.take_of_length_le (by rw [List.length_drop]; exact Nat.le_refl _)
  simp [bs, e]

theorem split_step {c : UInt8} {L : List UInt8} {f i : Nat} (h1 : f ≤ i) (h2 : L[i]? = some c) (h3 : c ∉ (L.drop f).take (i - f)) : splitB c (L.drop f) = (L.drop f).take (i - f) :: splitB c (L.drop (i + 1)) := by
  have hi : i < L.length := by
    rcases Nat.lt_or_ge i L.length with h | h
    · exact h
    · rw [List.getElem?_eq_none h] at h2; cases h2
  have e : L.drop f = (L.drop f).take (i - f) ++ c :: L.drop (i + 1) := by
    have e1 := (List.take_append_drop (i - f) (L.drop f)).symm
    rw [List.drop_drop, show f + (i - f) = i by omega] at e1
    rw [List.getElem?_eq_getElem hi] at h2
    simp only [Option.some.injEq] at h2
    rw [List.drop_eq_getElem_cons hi, h2] at e1
    exact e1
  conv => lhs; rw [e]
  exact splitB_app _ h3
theorem notin_step {c x : UInt8} {L : List UInt8} {f i : Nat} (h1 : f ≤ i) (h2 : L[i]? = some x) (hx : x ≠ c) (h3 : c ∉ (L.drop f).take (i - f)) : c ∉ (L.drop f).take (i + 1 - f) := by
  rw [show i + 1 - f = (i - f) + 1 by omega, List.take_add_one, List.getElem?_drop, show f + (i - f) = i by omega, h2]
  simp only [Option.toList_some, List.mem_append, List.mem_singleton, not_or]
  exact ⟨h3, fun e => hx e.symm⟩

/-- The values of texts. -/
def strV (ls : List (List UInt8)) : List Value := ls.map fun l => .string (bs l)

set_option maxHeartbeats 2000000 in
theorem splitAt_any (L : List UInt8) (c : UInt8) (w : World) (hL : L.length ≤ 2000000) :
    Calls Tryz.prog 56 #[.string (bs L), .int .u8 (c.toNat : Nat)] w fun e w' => ∃ v, e = .returned v ∧ Own w' 9 v (strV (splitB c L)) ∧ From w.heap.size v ∧ New w w' := by
  obtain ⟨S, hS⟩ : ∃ S, S = bs L := ⟨_, rfl⟩
  have hn : S.size = L.length := by rw [hS, bs_size]
  have hb : S.size ≤ 2000000 := by omega
  have hix := run_idx L
  have hsc := run_slc L
  have hsf := run_slf L
  rw [← hS] at hix hsc hsf ⊢
  obtain ⟨b, hbc⟩ : ∃ b, b = c.toNat := ⟨_, rfl⟩
  rw [← hbc]
  have HB := Lib.hid hbc
  have HN := Lib.hid hn
  have HX := Lib.hid hix
  have HC := Lib.hid hsc
  have HF := Lib.hid hsf
  clear hS hn hix hsc hsf hbc hL
  go_enter Tryz.func56, Tryz.ntmps56
  go_wp2_with fail
  go_loopw [5, 6, 7] (fun t5 t6 t7 wr => ∃ (f i l cc : Nat) (ad : Option Addr) (out : List (List UInt8)), t5 = .slice ad l cc ∧ t6 = .int .i64 f ∧ t7 = .int .i64 i ∧ f ≤ i ∧ i ≤ S.size ∧ out.length ≤ f ∧ Hid (Own wr 9 (.slice ad l cc) (strV out) ∧ From w.heap.size (.slice ad l cc) ∧ New w wr ∧ splitB c L = out ++ splitB c (L.drop f) ∧ c ∉ (L.drop f).take (i - f))) (fun _ _ t7 _ => S.size - (intOf t7).toNat)
  case atStart => exact ⟨0, 0, _, _, _, [], rfl, rfl, rfl, Nat.le_refl _, Nat.zero_le _, Nat.le_refl _, Own.empty _ _, From.new _ _ _, New.alloc _ _, rfl, by simp⟩
  case round =>
    obtain ⟨f, i, l, cc, ad, out, rfl, rfl, rfl, hfi, hi, hol, HL⟩ := hrel
    by_cases hin : i < S.size
    · obtain ⟨x, hx1, hx2⟩ := HX.out i (by rw [← HN.out]; exact hin)
      have hsl := HC.out f i hfi (by rw [← HN.out]; exact hi)
      obtain ⟨y, hy⟩ : ∃ y, y = x.toNat := ⟨_, rfl⟩
      rw [← hy] at hx2
      have H1 := Lib.hid hx1
      have HY := Lib.hid hy
      clear hx1 hy
      by_cases hyb : y = b
      · have hd : ((y : Int) == (b : Int)) = true := by simp; omega
        have hxc : Hid (x = c) := UInt8.toNat_inj.1 (by rw [← HY.out, ← HB.out]; exact hyb)
        obtain ⟨z, hz⟩ : ∃ z, z = bs ((L.drop f).take (i - f)) := ⟨_, rfl⟩
        rw [← hz] at hsl
        have HZ := Lib.hid hz
        clear hz
        go_wp2_with (at_builtin; refine wpList_app1 rfl _ _ _ rfl tyStr wr HL.out.1 rfl _ _ rfl rfl rfl (by rw [strV, List.length_map]; omega) ?_; intro v5 w5 k1 k2 k3; obtain ⟨a5, c5, hv5, _, _⟩ := k1.shape'; have K5 := Lib.hid (And.intro k1 (And.intro k2 k3)); have HV5 := Lib.hid hv5; clear k1 k2 k3 hv5)
        obtain ⟨l5, hl5⟩ : ∃ l5, v5 = .slice a5 l5 c5 := ⟨_, HV5.out⟩
        subst hl5
        clear HV5
        go_wp2_with fail
        go_roundw
        case rel => exact ⟨i + 1, i + 1, l5, c5, a5, out ++ [(L.drop f).take (i - f)], rfl, by go_num, by go_num, Nat.le_refl _, by omega, by rw [List.length_append]; show out.length + 1 ≤ _; omega, (by
          have h := K5.out.1
          rw [HZ.out] at h
          rw [strV, List.map_append]
          exact h), (fun g hg => by
          rcases K5.out.2.2 g hg with h | h
          · exact HL.out.2.1 g h
          · have h1 := HL.out.2.2.1.size
            omega), New.then HL.out.2.2.1 K5.out.2.1 (fun k hk => HL.out.2.1 k hk), (by
          rw [HL.out.2.2.2.1, split_step hfi (by rw [H1.out, hxc.out]) HL.out.2.2.2.2, List.append_assoc]; rfl), (by simp)⟩
        case measure => simp [intOf]; omega
      · have hd : ((y : Int) == (b : Int)) = false := by simp; omega
        have hxc : Hid (x ≠ c) := fun e => hyb (by rw [HY.out, HB.out, e])
        clear hsl
        go_wp2_with fail
        go_roundw
        case rel => exact ⟨f, i + 1, l, cc, ad, out, rfl, rfl, by go_num, by omega, by omega, hol, HL.out.1, HL.out.2.1, HL.out.2.2.1, HL.out.2.2.2.1, notin_step hfi H1.out hxc.out HL.out.2.2.2.2⟩
        case measure => simp [intOf]; omega
    · obtain rfl : i = S.size := by omega
      have hsl := HF.out f (by rw [← HN.out]; exact hfi)
      obtain ⟨z, hz⟩ : ∃ z, z = bs (L.drop f) := ⟨_, rfl⟩
      rw [← hz] at hsl
      have HZ := Lib.hid hz
      clear hz
      go_wp2_with (at_builtin; refine wpList_app1 rfl _ _ _ rfl tyStr wr HL.out.1 rfl _ _ rfl rfl rfl (by rw [strV, List.length_map]; omega) ?_; intro v5 w5 k1 k2 k3; have K5 := Lib.hid (And.intro k1 (And.intro k2 k3)); clear k1 k2 k3)
      go_ret
      exact ⟨_, rfl, (by
          have h := K5.out.1
          have h3 := HL.out.2.2.2.2
          rw [HN.out, List.take_of_length_le (by rw [List.length_drop]; exact Nat.le_refl _)] at h3
          rw [HL.out.2.2.2.1, splitB_none h3, strV, List.map_append]
          rw [HZ.out] at h
          exact h), (fun g hg => by
          rcases K5.out.2.2 g hg with h | h
          · exact HL.out.2.1 g h
          · have h1 := HL.out.2.2.1.size
            omega), New.then HL.out.2.2.1 K5.out.2.1 (fun k hk => HL.out.2.1 k hk)⟩

set_option maxHeartbeats 2000000 in
theorem specDigits_any (L : List UInt8) (w : World) (hL : L.length ≤ 2000000) :
    Calls Tryz.prog 57 #[.string (bs L)] w fun e w' => ∃ v, e = .returned v ∧ Own w' 3 v ((sUn L).map (Value.int .i64)) ∧ From w.heap.size v ∧ New w w' := by
  obtain ⟨S, hS⟩ : ∃ S, S = bs L := ⟨_, rfl⟩
  have hn : S.size = L.length := by rw [hS, bs_size]
  have hb : S.size ≤ 2000000 := by omega
  have hix := run_idx L
  rw [← hS] at hix ⊢
  have HN := Lib.hid hn
  have HX := Lib.hid hix
  clear hS hn hix hL
  go_enter Tryz.func57, Tryz.ntmps57
  go_wp2_with fail
  go_loopw [3, 4] (fun t3 t4 wr => ∃ (i l cc : Nat) (ad : Option Addr) (out : List Int), t3 = .slice ad l cc ∧ t4 = .int .i64 i ∧ i ≤ S.size ∧ out.length = i ∧ Hid (Own wr 3 (.slice ad l cc) (out.map (Value.int .i64)) ∧ From w.heap.size (.slice ad l cc) ∧ New w wr ∧ out = sUn (L.take i))) (fun _ t4 _ => S.size - (intOf t4).toNat)
  case atStart => exact ⟨0, _, _, _, [], rfl, rfl, Nat.zero_le _, rfl, Own.empty _ _, From.new _ _ _, New.alloc _ _, rfl⟩
  case round =>
    obtain ⟨i, l, cc, ad, out, rfl, rfl, hi, hol, HL⟩ := hrel
    by_cases hin : i < S.size
    · obtain ⟨x, hx1, hx2⟩ := HX.out i (by rw [← HN.out]; exact hin)
      obtain ⟨y, hy⟩ : ∃ y, y = x.toNat := ⟨_, rfl⟩
      rw [← hy] at hx2
      have hy256 : y < 256 := by rw [hy]; exact x.toNat_lt
      have HST : Hid (∀ z, z = sDig x → out ++ [z] = sUn (L.take (i + 1))) := by
        intro z hz
        rw [List.take_add_one, hx1, HL.out.2.2.2, sUn, sUn, List.map_append, hz]
        rfl
      have HSD : Hid (sDig x = if 48 ≤ y ∧ y ≤ 57 then (y : Int) - 48 else if y = 46 then -1 else -2) := by
        show sDig x = _
        rw [hy]; rfl
      clear hx1 hy
      by_cases c1 : 48 ≤ y ∧ y ≤ 57
      · have hz : Hid ((y : Int) - 48 = sDig x) := by show _ = _; rw [HSD.out, if_pos c1]
        rcases c1 with ⟨c1, c2⟩
        go_wp2_with (at_builtin; refine wpList_app1 rfl _ _ _ rfl tyInt wr HL.out.1 rfl _ _ rfl rfl rfl (by rw [List.length_map, hol]; omega) ?_; intro v5 w5 k1 k2 k3; obtain ⟨a5, c5, hv5, _, _⟩ := k1.shape'; have K5 := Lib.hid (And.intro k1 (And.intro k2 k3)); have HV5 := Lib.hid hv5; clear k1 k2 k3 hv5)
        obtain ⟨l5, hl5⟩ : ∃ l5, v5 = .slice a5 l5 c5 := ⟨_, HV5.out⟩
        subst hl5
        clear HV5
        go_wp2_with fail
        go_roundw
        case rel => exact ⟨i + 1, l5, c5, a5, out ++ [(y : Int) - 48], rfl, by go_num, by omega, by rw [List.length_append, hol]; rfl, (by rw [List.map_append]; exact K5.out.1), (fun g hg => by
            rcases K5.out.2.2 g hg with h | h
            · exact HL.out.2.1 g h
            · have h1 := HL.out.2.2.1.size
              omega), New.then HL.out.2.2.1 K5.out.2.1 (fun k hk => HL.out.2.1 k hk), HST.out _ hz.out⟩
        case measure => simp [intOf]; omega
      · by_cases c2 : y = 46
        · have hz : Hid ((-1 : Int) = sDig x) := by show _ = _; rw [HSD.out, if_neg c1, if_pos c2]
          subst c2
          go_wp2_with (at_builtin; refine wpList_app1 rfl _ _ _ rfl tyInt wr HL.out.1 rfl _ _ rfl rfl rfl (by rw [List.length_map, hol]; omega) ?_; intro v5 w5 k1 k2 k3; obtain ⟨a5, c5, hv5, _, _⟩ := k1.shape'; have K5 := Lib.hid (And.intro k1 (And.intro k2 k3)); have HV5 := Lib.hid hv5; clear k1 k2 k3 hv5)
          obtain ⟨l5, hl5⟩ : ∃ l5, v5 = .slice a5 l5 c5 := ⟨_, HV5.out⟩
          subst hl5
          clear HV5
          go_wp2_with fail
          go_roundw
          case rel => exact ⟨i + 1, l5, c5, a5, out ++ [-1], rfl, by go_num, by omega, by rw [List.length_append, hol]; rfl, (by rw [List.map_append]; exact K5.out.1), (fun g hg => by
            rcases K5.out.2.2 g hg with h | h
            · exact HL.out.2.1 g h
            · have h1 := HL.out.2.2.1.size
              omega), New.then HL.out.2.2.1 K5.out.2.1 (fun k hk => HL.out.2.1 k hk), HST.out _ hz.out⟩
          case measure => simp [intOf]; omega
        · have hz : Hid ((-2 : Int) = sDig x) := by show _ = _; rw [HSD.out, if_neg c1, if_neg c2]
          have hd : ((y : Int) == 46) = false := by simp; omega
          by_cases c3 : 48 ≤ y
          · have c4 : ¬ y ≤ 57 := fun h => c1 ⟨c3, h⟩
            go_wp2_with (at_builtin; refine wpList_app1 rfl _ _ _ rfl tyInt wr HL.out.1 rfl _ _ rfl rfl rfl (by rw [List.length_map, hol]; omega) ?_; intro v5 w5 k1 k2 k3; obtain ⟨a5, c5, hv5, _, _⟩ := k1.shape'; have K5 := Lib.hid (And.intro k1 (And.intro k2 k3)); have HV5 := Lib.hid hv5; clear k1 k2 k3 hv5)
            obtain ⟨l5, hl5⟩ : ∃ l5, v5 = .slice a5 l5 c5 := ⟨_, HV5.out⟩
            subst hl5
            clear HV5
            go_wp2_with fail
            go_roundw
            case rel => exact ⟨i + 1, l5, c5, a5, out ++ [-2], rfl, by go_num, by omega, by rw [List.length_append, hol]; rfl, (by rw [List.map_append]; exact K5.out.1), (fun g hg => by
              rcases K5.out.2.2 g hg with h | h
              · exact HL.out.2.1 g h
              · have h1 := HL.out.2.2.1.size
                omega), New.then HL.out.2.2.1 K5.out.2.1 (fun k hk => HL.out.2.1 k hk), HST.out _ hz.out⟩
            case measure => simp [intOf]; omega
          · clear c1
            go_wp2_with (at_builtin; refine wpList_app1 rfl _ _ _ rfl tyInt wr HL.out.1 rfl _ _ rfl rfl rfl (by rw [List.length_map, hol]; omega) ?_; intro v5 w5 k1 k2 k3; obtain ⟨a5, c5, hv5, _, _⟩ := k1.shape'; have K5 := Lib.hid (And.intro k1 (And.intro k2 k3)); have HV5 := Lib.hid hv5; clear k1 k2 k3 hv5)
            obtain ⟨l5, hl5⟩ : ∃ l5, v5 = .slice a5 l5 c5 := ⟨_, HV5.out⟩
            subst hl5
            clear HV5
            go_wp2_with fail
            go_roundw
            case rel => exact ⟨i + 1, l5, c5, a5, out ++ [-2], rfl, by go_num, by omega, by rw [List.length_append, hol]; rfl, (by rw [List.map_append]; exact K5.out.1), (fun g hg => by
              rcases K5.out.2.2 g hg with h | h
              · exact HL.out.2.1 g h
              · have h1 := HL.out.2.2.1.size
                omega), New.then HL.out.2.2.1 K5.out.2.1 (fun k hk => HL.out.2.1 k hk), HST.out _ hz.out⟩
            case measure => simp [intOf]; omega
    · obtain rfl : i = S.size := by omega
      go_wp2_with fail
      go_ret
      exact ⟨_, rfl, (by
        have h := HL.out.1
        rw [HL.out.2.2.2, HN.out, List.take_length] at h
        exact h), HL.out.2.1, HL.out.2.2.1⟩
end Go.Proofs.YtcdbeepphdfipaaGreatDoor

namespace Go.Proofs.YtcdbeepphdfipaaGreatDoor
set_option linter.unusedVariables false
theorem own_blk2 {w : World} {e t : TypeId} {v x y : Value} {xs : List Value} {g : Nat} (h : Own w e v xs) (hb : Blk2 w g x y t) (hne : e ≠ t) : ∀ b, v.ownBlock = some b → ¬ b = g := by
  intro b hv e1
  subst e1
  rcases h with ⟨rfl, _⟩ | ⟨g1, c1, cur1, rfl, hh1, _⟩
  · simp [Value.ownBlock] at hv
  · simp [Value.ownBlock] at hv
    subst hv
    rw [hb] at hh1
    simp at hh1
    exact hne hh1.2.symm

end Go.Proofs.YtcdbeepphdfipaaGreatDoor

namespace Go.Proofs.YtcdbeepphdfipaaGreatDoor
open Go.RowKit
set_option linter.unusedVariables false

/-- What parseCode finds. -/
def ParsS (L : List UInt8) (p : Int) (rows : List (List Int)) (ok : Bool) : Prop :=
  (∃ d r, splitB 58 L = [[d], r] ∧ 0 ≤ sDig d ∧ p = sDig d ∧ rows = (splitB 47 r).map sUn ∧ (ok = true ↔ ValidC p rows)) ∨
  ((∀ d r, splitB 58 L = [[d], r] → ¬ 0 ≤ sDig d) ∧ p = 0 ∧ rows = [] ∧ ok = false)
theorem sDig_ge {d : UInt8} : 0 ≤ sDig d ↔ 48 ≤ d.toNat ∧ d.toNat ≤ 57 := by
  unfold sDig
  constructor
  · intro h
    by_cases c : 48 ≤ d.toNat ∧ d.toNat ≤ 57
    · exact c
    · rw [if_neg c] at h
      split at h <;> omega
  · intro h
    rw [if_pos h]
    omega
theorem sDig_val {d : UInt8} (h : 48 ≤ d.toNat ∧ d.toNat ≤ 57) : sDig d = (d.toNat : Int) - 48 := by rw [sDig, if_pos h]
/-- The pieces of a text are together no longer than the text and the bytes between them. -/
theorem splitB_len (c : UInt8) : ∀ l : List UInt8, (splitB c l).length ≤ l.length + 1 ∧ ∀ x ∈ splitB c l, x.length ≤ l.length
  | [] => by simp [splitB]
  | y :: l => by
    obtain ⟨h1, h2⟩ := splitB_len c l
    rw [splitB]
    split
    · refine ⟨by simp; omega, fun x hx => ?_⟩
      rcases List.mem_cons.1 hx with rfl | hx
      · simp
      · have := h2 x hx
        simp; omega
    · split
      · simp
      · rename_i h t e
        rw [e] at h1 h2
        refine ⟨by simp at h1 ⊢; omega, fun x hx => ?_⟩
        rcases List.mem_cons.1 hx with rfl | hx
        · have := h2 h (List.mem_cons_self ..)
          simp; omega
        · have := h2 x (List.mem_cons_of_mem _ hx)
          simp; omega
theorem gv_strV {ls : List (List UInt8)} {i : Nat} (h : i < ls.length) : gv (strV ls) i = .string (bs ls[i]) := by
  rw [gv_lt (by rw [strV, List.length_map]; exact h)]
  simp [strV]
theorem len_bs (L : List UInt8) (n : Nat) (h : L.length = n) : (bs L).size = n := by rw [bs_size, h]

theorem cell_oneB {w : World} {g : Nat} {v : Value} {t : TypeId} (h : w.heap[g]? = some (.cells #[v] t (0, 0))) (ad : Addr) (had : some (⟨g, 0, none⟩ : Addr) = some ad) (j : Nat) (u : Value) (hu : [v][j]? = some u) : w.cell? (ad.add j) = some u := by
  obtain rfl := Option.some.inj had
  match j, hu with
  | 0, hu =>
    simp at hu; subst hu
    rw [Addr.add_lit, Nat.zero_add, cell_of_heap h]; rfl
/-- No digit stands ahead of a colon. -/
def NoDig (L : List UInt8) : Prop := ∀ d r, splitB 58 L = [[d], r] → ¬ 0 ≤ sDig d
theorem putB2 {w : World} {g : Nat} {a b : Value} {t : TypeId} (h : Blk2 w g a b t) (x y : Value) : Blk2 ((w.setCell ⟨g, 0, none⟩ x).setCell ⟨g, 1, none⟩ y) g x y t := by
  have h' : w.heap[g]? = some (.cells #[a, b] t (0, 0)) := h
  simp [Blk2, World.setCell, Array.getElem?_modify, h']
theorem setB1 {w : World} {g : Nat} {a b : Value} {t : TypeId} (h : Blk2 w g a b t) (y : Value) : Blk2 (w.setCell ⟨g, 1, none⟩ y) g a y t := by
  have h' : w.heap[g]? = some (.cells #[a, b] t (0, 0)) := h
  simp [Blk2, World.setCell, Array.getElem?_modify, h']
/-- It ends with what parseCode finds. -/
def EndS (L : List UInt8) (w : World) (e : Ending) (w' : World) : Prop :=
  ∃ u vs rows p ok, e = .returned (.tuple #[.agg #[.int .i64 p, u], .bool ok]) ∧ OwnR w' 53 3 u vs rows ∧ FromR w.heap.size u vs rows ∧ ParsS L p rows ok ∧ New w w'

set_option maxRecDepth 100000 in
set_option maxHeartbeats 4000000 in
theorem parseCodeS_any (L : List UInt8) (w : World) (hL : L.length ≤ 1100000) :
    Calls Tryz.prog 26 #[.string (bs L)] w fun e w' => EndS L w e w' := by
  have HLL := Lib.hid hL
  have r0 := Blk2.alloc w (.int .i64 0) (.slice none 0 0) 24
  have n0 := New.alloc w (.cells #[.int .i64 0, .slice none 0 0] 24)
  obtain ⟨w0, hw0⟩ : ∃ w0, w0 = w.alloc (.cells #[.int .i64 0, .slice none 0 0] 24) := ⟨_, rfl⟩
  rw [← hw0] at r0 n0
  have hs0 : w.heap.size < w0.heap.size := by rw [hw0, World.size_alloc]; exact Nat.lt_succ_self _
  go_enter Tryz.func26, Tryz.ntmps26
  go_upto_region 1 with fail
  rw [← hw0]
  have H0 := Lib.hid (And.intro r0 (And.intro n0 hs0))
  clear r0 n0 hs0 hw0 hL
  go_upto_region 2 with (go_at_call 56; refine (splitAt_any L 58 _ (by have := HLL.out; omega)).mono ?_; rintro e w1 ⟨v1, rfl, ho1, hf1, hn1⟩; obtain ⟨ls, hls⟩ : ∃ ls, ls = splitB 58 L := ⟨_, rfl⟩; rw [← hls] at ho1; obtain ⟨g1, c1, hv1, _, _⟩ := ho1.shape (by rw [strV, hls]; intro h; exact splitB_ne 58 L (List.map_eq_nil_iff.1 h)); rw [strV, List.length_map] at hv1; obtain ⟨l1, hl1⟩ : ∃ l1, l1 = ls.length := ⟨_, rfl⟩; rw [← hl1] at hv1; subst hv1; have H1 := Lib.hid (And.intro ho1 (And.intro hf1 (And.intro hn1 (And.intro hls hl1)))); clear ho1 hf1 hn1 hls hl1)
  obtain ⟨z0, z1, _, _⟩ := (H0.out.1.new H1.out.2.2.1).cells
  obtain ⟨x0, x1, hx⟩ := (H0.out.1.new H1.out.2.2.1).put (.int .i64 0) (.slice none 0 0)
  have FIN : Hid (NoDig L → EndS L w (.returned (.tuple #[.agg #[.int .i64 0, .slice none 0 0], .bool false])) ((w1.setCell ⟨w.heap.size, 0, none⟩ (.int .i64 0)).setCell ⟨w.heap.size, 1, none⟩ (.slice none 0 0))) := fun h =>
    ⟨.slice none 0 0, [], [], 0, false, rfl, ⟨Own.nil _ _, rfl, fun i hi => absurd hi (Nat.not_lt_zero i), fun i j hi => absurd hi (Nat.not_lt_zero i)⟩, ⟨From.nil _, fun i hi => absurd hi (Nat.not_lt_zero i)⟩, .inr ⟨h, rfl, rfl, rfl⟩, New.then (H0.out.2.1.trans H1.out.2.2.1) hx (fun i hi => by omega)⟩
  clear hx
  by_cases hl2 : l1 = 2
  rotate_left
  · have hd : ((l1 : Int) == 2) = false := by simp; omega
    go_wp2_with fail
    refine bodyPost_ret (v := .tuple #[.agg #[.int .i64 0, .slice none 0 0], .bool false]) (by simp [results, go_sem, x0, x1]) rfl ?_
    exact FIN.out (fun d r h => by
      have h1 := H1.out.2.2.2.1
      have h2 := H1.out.2.2.2.2
      rw [h1, h] at h2
      exact absurd h2 hl2)
  subst hl2
  obtain ⟨a, r, har⟩ : ∃ a r, ls = [a, r] := by
    have h2 := H1.out.2.2.2.2
    match ls, h2 with
    | [a, r], _ => exact ⟨a, r, rfl⟩
  subst har
  have ck0 : w1.cell? ⟨g1, 0, none⟩ = some (.string (bs a)) := (H1.out.1.cell (i := 0) (by simp [strV])).1
  have ck1 : w1.cell? ⟨g1, 1, none⟩ = some (.string (bs r)) := (H1.out.1.cell (i := 1) (by simp [strV])).1
  have HE : Hid (splitB 58 L = [a, r]) := H1.out.2.2.2.1.symm
  by_cases ha : a.length = 1
  rotate_left
  · obtain ⟨A, hA⟩ : ∃ A, A = bs a := ⟨_, rfl⟩
    have hA1 : ¬ (A.size : Int) = 1 := by rw [hA, bs_size]; omega
    have hd : ((A.size : Int) == 1) = false := by simp; omega
    rw [← hA] at ck0
    clear hA
    go_wp2_with fail
    refine bodyPost_ret (v := .tuple #[.agg #[.int .i64 0, .slice none 0 0], .bool false]) (by simp [results, go_sem, x0, x1]) rfl ?_
    exact FIN.out (fun d r' h => by
      have h1 := HE.out
      rw [h] at h1
      simp only [List.cons.injEq] at h1
      rw [← h1.1] at ha
      exact absurd rfl ha)
  obtain ⟨d, rfl⟩ : ∃ d, a = [d] := by
    match a, ha with
    | [d], _ => exact ⟨d, rfl⟩
  obtain ⟨y, hy⟩ : ∃ y, y = d.toNat := ⟨_, rfl⟩
  have hix : ∀ w, (Instr.index 9 (.string (bs [d])) (.int .i64 0)).run Tryz.prog w = .ok (.int .u8 (y : Nat)) w := by
    obtain ⟨x, hx1, hx2⟩ := run_idx [d] 0 (by simp)
    intro w
    have h := hx2 w
    simp at hx1
    subst hx1
    rw [hy]
    exact h
  obtain ⟨A, hA⟩ : ∃ A, A = bs [d] := ⟨_, rfl⟩
  have hA1 : (A.size : Int) = 1 := by rw [hA, bs_size]; rfl
  have hdA : ((A.size : Int) == 1) = true := by rw [hA1]; rfl
  rw [← hA] at hix ck0
  have hy256 : y < 256 := by rw [hy]; exact d.toNat_lt
  have HY := Lib.hid hy
  have HA := Lib.hid hA
  clear hA hy ha
  by_cases c1 : y < 48
  · go_wp2_with fail
    refine bodyPost_ret (v := .tuple #[.agg #[.int .i64 0, .slice none 0 0], .bool false]) (by simp [results, go_sem, x0, x1]) rfl ?_
    exact FIN.out (fun d' r' h h0 => by
      have h1 := HE.out
      rw [h] at h1
      simp only [List.cons.injEq, and_true] at h1
      rw [h1.1] at h0
      have h2 := (sDig_ge.1 h0).1
      rw [← HY.out] at h2
      omega)
  by_cases c2 : 57 < y
  · go_wp2_with fail
    refine bodyPost_ret (v := .tuple #[.agg #[.int .i64 0, .slice none 0 0], .bool false]) (by simp [results, go_sem, x0, x1]) rfl ?_
    exact FIN.out (fun d' r' h h0 => by
      have h1 := HE.out
      rw [h] at h1
      simp only [List.cons.injEq, and_true] at h1
      rw [h1.1] at h0
      have h2 := (sDig_ge.1 h0).2
      rw [← HY.out] at h2
      omega)
  clear FIN x0 x1 z0 z1
  obtain ⟨w2, hw2⟩ : ∃ w2, w2 = w1.alloc (.cells #[.int .i64 ((y : Int) - 48), .slice none 0 0] 24) := ⟨_, rfl⟩
  have B2 : Hid (Blk2 w2 w1.heap.size (.int .i64 ((y : Int) - 48)) (.slice none 0 0) 24) := by rw [hw2]; exact Blk2.alloc w1 _ _ _
  have N2 : Hid (New w1 w2 ∧ w1.heap.size < w2.heap.size) := by
    rw [hw2]
    exact ⟨New.alloc _ _, by rw [World.size_alloc]; exact Nat.lt_succ_self _⟩
  have ck2 := N2.out.1.cellNew ck1
  have hy0 : (0 : Int) ≤ (y : Int) - 48 ∧ (y : Int) - 48 ≤ 9 := by omega
  go_upto_region 5 with fail
  rw [← hw2]
  clear hw2 ck0 ck1 hix hdA hA1
  have hlen := splitB_len 58 L
  rw [HE.out] at hlen
  have hr := hlen.2 r (by simp)
  have HRL := Lib.hid hr
  clear hlen hr
  go_upto_region 6 with (go_at_call 56; refine (splitAt_any r 47 _ (by have := HLL.out; have := HRL.out; omega)).mono ?_; rintro e w3 ⟨v3, rfl, ho3, hf3, hn3⟩; obtain ⟨ls2, hls2⟩ : ∃ ls, ls = splitB 47 r := ⟨_, rfl⟩; rw [← hls2] at ho3; obtain ⟨g3, c3, hv3, _, _⟩ := ho3.shape (by rw [strV, hls2]; intro h; exact splitB_ne 47 r (List.map_eq_nil_iff.1 h)); rw [strV, List.length_map] at hv3; obtain ⟨m, hm⟩ : ∃ m, m = ls2.length := ⟨_, rfl⟩; rw [← hm] at hv3; subst hv3; have H3 := Lib.hid (And.intro ho3 (And.intro hf3 (And.intro hn3 (And.intro hls2 hm)))); clear ho3 hf3 hn3 hls2 hm)
  obtain ⟨G, hG⟩ : ∃ G, G = w1.heap.size := ⟨_, rfl⟩
  rw [← hG] at B2 ⊢
  have hG3 : G < w3.heap.size := by have h1 := N2.out.2; have h2 := H3.out.2.2.1.size; omega
  have hG0 : w.heap.size < G := by have h1 := H0.out.2.2; have h2 := H1.out.2.2.1.size; omega
  have NW : Hid (New w w3) := H0.out.2.1.trans (H1.out.2.2.1.trans (N2.out.1.trans H3.out.2.2.1))
  have hm1 : m ≤ 1200000 := by
    have h1 := (splitB_len 47 r).1
    have h2 := H3.out.2.2.2.2
    rw [H3.out.2.2.2.1] at h2
    have h3 := HRL.out
    have h4 := HLL.out
    omega
  have B3 := Lib.hid (B2.out.new H3.out.2.2.1)
  have HGG := Lib.hid hG
  clear hG ck2
  go_wp2_with fail
  go_loopw [7] (fun t7 wr => ∃ k : Nat, t7 = .int .i64 k ∧ k ≤ m ∧ Hid (∃ ad l c vs, Blk2 wr G (.int .i64 ((y : Int) - 48)) (.slice ad l c) 24 ∧ OwnR wr 53 3 (.slice ad l c) vs ((ls2.take k).map sUn) ∧ FromR w3.heap.size (.slice ad l c) vs ((ls2.take k).map sUn) ∧ Chg (· = G) w3 wr)) (fun t7 _ => m - (intOf t7).toNat)
  case atStart => exact ⟨0, rfl, Nat.zero_le _, none, 0, 0, [], B3.out, ⟨Own.nil _ _, rfl, fun i hi => absurd hi (Nat.not_lt_zero i), fun i j hi => absurd hi (Nat.not_lt_zero i)⟩, ⟨From.nil _, fun i hi => absurd hi (Nat.not_lt_zero i)⟩, Chg.refl _ _⟩
  case round =>
    obtain ⟨k, rfl, hk, HL⟩ := hrel
    obtain ⟨ad, l, c, vs, hb, ho, hf, hc⟩ := HL.out
    have hvl : vs.length ≤ 1200000 := by rw [ho.len, List.length_map, List.length_take]; omega
    have hpo := H3.out.1.chg hc (fun g hg e => own_blk2 H3.out.1 B3.out (by decide) g hg e)
    have HW := Lib.hid (And.intro hb (And.intro ho (And.intro hf hc)))
    obtain ⟨p0, p1, p2, p3⟩ := hb.cells
    by_cases hkm : k < m
    · have hkl : k < ls2.length := by rw [← H3.out.2.2.2.2]; exact hkm
      obtain ⟨q, hq⟩ : ∃ q, q = ls2[k] := ⟨_, rfl⟩
      have ck : wr.cell? ⟨g3, k, none⟩ = some (.string (bs q)) := by
        rw [(hpo.cell (i := k) (by rw [strV, List.length_map]; exact hkl)).1, gv_strV hkl, hq]
      have hql : q.length ≤ 2000000 := by
        have h1 := (splitB_len 47 r).2 q (by rw [← H3.out.2.2.2.1, hq]; exact List.getElem_mem hkl)
        have h3 := HRL.out
        have h4 := HLL.out
        omega
      have HQ := Lib.hid (show (ls2.take (k + 1)).map sUn = (ls2.take k).map sUn ++ [sUn q] by rw [List.take_add_one, List.getElem?_eq_getElem hkl, List.map_append, hq]; rfl)
      have hvl' : vs.length + 1 ≤ 1099511627776 := by omega
      clear hb ho hf hc hpo hq hkl
      go_upto_region 9 with fail
      go_region_law (first
        | (go_simp; go_at_call 57; refine (specDigits_any q _ hql).mono ?_; rintro e w4 ⟨v4, rfl, ho4, hf4, hn4⟩; have hN4 : New wr w4 := (New.drew _).trans hn4; obtain ⟨a4, c4, hv4, _, _⟩ := ho4.shape'; obtain ⟨l4, hl4⟩ : ∃ l4, v4 = .slice a4 l4 c4 := ⟨_, hv4⟩; subst hl4; clear hv4; obtain ⟨e0, e1, e2, e3⟩ := (HW.out.1.new hN4).cells; obtain ⟨i0, i1, i2, i3⟩ := ((HW.out.1.new hN4).new (New.alloc w4 (.cells #[.slice a4 l4 c4] 53))).cells; have H4 := Lib.hid (And.intro ho4 (And.intro hf4 hN4)); clear ho4 hf4 hn4 hN4)
        | (refine step_app (by rfl) (.tmp 53) (.tmp 59) _ (by rfl) tyRow (HW.out.2.1.outer.new (H4.out.2.2.trans (New.alloc w4 (.cells #[.slice a4 l4 c4] 53)))) (by rfl) (some ⟨w4.heap.size, 0, none⟩) 1 1 [.slice a4 l4 c4] (by rfl) (by rfl) (fun h => by cases h) (cell_oneB (heap_alloc_new w4 _)) (fun u hu => by simp at hu; subst hu; rfl) hvl' ?_; intro v6 w6 k1 k2 k3; obtain ⟨a6, c6, hv6, _, _⟩ := k1.shape'; obtain ⟨l6, hl6⟩ : ∃ l6, v6 = .slice a6 l6 c6 := ⟨_, hv6⟩; subst hl6; clear hv6; have hch : Chg (fun b => (Value.slice ad l c).ownBlock = some b) w4 w6 := Chg.trans (New.alloc w4 (.cells #[.slice a4 l4 c4] 53)) k2 (fun _ _ x => x.elim) (fun _ _ x => x); obtain ⟨t0, t1, t2, t3⟩ := ((HW.out.1.new H4.out.2.2).chg hch (fun e => own_blk2 HW.out.2.1.outer HW.out.1 (by decide) _ e rfl)).cells; have K6 := Lib.hid (And.intro k1 (And.intro hch k3)); clear k1 k2 k3 hch))
      all_goals
        have hb6 := (HW.out.1.new H4.out.2.2).chg K6.out.2.1 (fun e => own_blk2 HW.out.2.1.outer HW.out.1 (by decide) _ e rfl)
        obtain ⟨m1, m2, m3⟩ := OwnR.push (B := w3.heap.size) HW.out.2.1 HW.out.2.2.1 HW.out.2.2.2.size H4.out.2.2 H4.out.1 H4.out.2.1 K6.out.1 K6.out.2.1 (fun g' h => by
          rcases K6.out.2.2 g' h with h | h
          · exact .inl h
          · exact .inr (by simp at h; omega))
        have hs9 : Chg (· = G) w6 (w6.setCell ⟨G, 1, none⟩ (.slice a6 l6 c6)) := Chg.setCell w6 ⟨G, 1, none⟩ _
        have HK := Lib.hid (And.intro (setB1 hb6 (.slice a6 l6 c6)) (And.intro (m1.chg hs9 (own_blk2 m1.outer hb6 (by decide)) (fun i hi => own_blk2 (m1.inner i hi) hb6 (by decide))) (And.intro m2 (Chg.trans (Chg.trans HW.out.2.2.2 m3 (fun _ _ x => x) (fun i hi h => by have := HW.out.2.2.1.1 i h; omega) (U := (· = G))) hs9 (fun _ _ x => x) (fun _ _ x => x) (U := (· = G))))))
        clear hb6 m1 m2 m3 hs9
        go_wp2_with fail
        go_roundw
        case rel => exact ⟨k + 1, by go_num, by omega, a6, l6, c6, _, HK.out.1, by rw [HQ.out]; exact HK.out.2.1, by rw [HQ.out]; exact HK.out.2.2.1, HK.out.2.2.2⟩
        case measure => simp [intOf]; omega
    · obtain rfl : k = m := by omega
      have hrw : (ls2.take k).map sUn = ls2.map sUn := by rw [H3.out.2.2.2.2, List.take_length]
      rw [hrw] at ho hf
      have hlen : ∀ i, i < (ls2.map sUn).length → (gr (ls2.map sUn) i).length ≤ 1200000 := by
        intro i hi
        rw [gr_lt hi, List.getElem_map, sUn, List.length_map]
        rw [List.length_map] at hi
        have h1 := (splitB_len 47 r).2 ls2[i] (by rw [← H3.out.2.2.2.1]; exact List.getElem_mem hi)
        have h3 := HRL.out
        have h4 := HLL.out
        omega
      have hml : (ls2.map sUn).length ≤ 1200000 := by rw [List.length_map, ← H3.out.2.2.2.2]; exact hm1
      have HI := Lib.hid (ho.isR (by unfold Mid; omega) (fun i hi => by have := hlen i hi; unfold Mid; omega))
      have HB0 := Lib.hid (((H0.out.1.new H1.out.2.2.1).new (N2.out.1.trans H3.out.2.2.1)).chg hc (fun e => by omega))
      have HZ := Lib.hid (And.intro hb (And.intro ho (And.intro hf hc)))
      have HRW : Hid (∃ rows, rows = ls2.map sUn) := ⟨_, rfl⟩
      clear hb ho hf hc hpo hlen hml hrw HW HRW
      go_upto_region 10 with fail
      go_region_law (first
        | (go_simp; go_at_call 39; refine (validCode_any ((y : Int) - 48) _ (ls2.map sUn) _ (HI.out.new (New.drew _))).mono ?_; rintro e w5 ⟨⟨ok, rfl, hok⟩, hn5⟩; have hN5 : New wr w5 := (New.drew _).trans hn5; obtain ⟨e0, e1, e2, e3⟩ := (HZ.out.1.new hN5).cells; obtain ⟨f0, f1, f2, f3⟩ := (HB0.out.new hN5).cells; have H5 := Lib.hid (And.intro hok hN5); clear hok hn5 hN5))
      all_goals
        obtain ⟨x0, x1, hx⟩ := (HB0.out.new H5.out.2).put (.int .i64 ((y : Int) - 48)) (.slice ad l c)
        have HX := Lib.hid hx
        clear hx
        go_wp2_with fail
        refine bodyPost_ret (v := .tuple #[.agg #[.int .i64 ((y : Int) - 48), .slice ad l c], .bool ok]) (by simp [results, go_sem, x0, x1]) rfl ?_
        have hNw : New w wr := New.then NW.out HZ.out.2.2.2 (fun i hi => by omega)
        have hs3 := NW.out.size
        have ho5 := HZ.out.2.1.new H5.out.2
        have hb5 := HB0.out.new H5.out.2
        have hsd : 0 ≤ sDig d := sDig_ge.2 ⟨by rw [← HY.out]; omega, by rw [← HY.out]; omega⟩
        have hpv : (y : Int) - 48 = sDig d := by rw [sDig_val (sDig_ge.1 hsd), ← HY.out]
        refine ⟨_, vs, ls2.map sUn, _, ok, rfl, ho5.chg HX.out (own_blk2 ho5.outer hb5 (by decide)) (fun i hi => own_blk2 (ho5.inner i hi) hb5 (by decide)), ⟨HZ.out.2.2.1.1.mono hs3, fun i hi => (HZ.out.2.2.1.2 i hi).mono hs3⟩, .inl ⟨d, r, HE.out, hsd, hpv, by rw [H3.out.2.2.2.1], H5.out.1⟩, New.then (hNw.trans H5.out.2) HX.out (fun i hi => by omega)⟩
end Go.Proofs.YtcdbeepphdfipaaGreatDoor

namespace Go.Proofs.YtcdbeepphdfipaaGreatDoor
open Go.RowKit
set_option linter.unusedVariables false

theorem ParsS.yes {L : List UInt8} {p : Int} {rows : List (List Int)} (h : ParsS L p rows true) : ParseR L p rows true := by
  rcases h with ⟨d, r, hs, hd, rfl, rfl, hi⟩ | ⟨_, _, _, h⟩
  · exact specParse_ok hs hd (hi.1 rfl)
  · cases h
theorem ParsS.no {L : List UInt8} {p : Int} {rows : List (List Int)} (h : ParsS L p rows false) : ParseR L 0 [] false := by
  refine specParse_no (fun d r hs hd hv => ?_)
  rcases h with ⟨d', r', hs', hd', rfl, rfl, hi⟩ | ⟨h, _, _, _⟩
  · rw [hs] at hs'
    simp only [List.cons.injEq, and_true] at hs'
    obtain ⟨rfl, rfl⟩ := hs'
    exact absurd (hi.2 hv) (by simp)
  · exact h d r hs hd
/-- It ends with what ParseCode returns. -/
def EndP (L : List UInt8) (w : World) (e : Ending) (w' : World) : Prop :=
  ∃ u vs rows p ok, e = .returned (.tuple #[.agg #[.int .i64 p, u], .bool ok]) ∧ OwnR w' 53 3 u vs rows ∧ FromR w.heap.size u vs rows ∧ ParseR L p rows ok ∧ New w w'

set_option maxRecDepth 100000 in
set_option maxHeartbeats 4000000 in
theorem specParseCode_any (L : List UInt8) (w : World) (hL : L.length ≤ 1100000) :
    Calls Tryz.prog 8 #[.string (bs L)] w fun e w' => EndP L w e w' := by
  have HLL := Lib.hid hL
  have r0 := Blk2.alloc w (.int .i64 0) (.slice none 0 0) 24
  have n0 := New.alloc w (.cells #[.int .i64 0, .slice none 0 0] 24)
  obtain ⟨w0, hw0⟩ : ∃ w0, w0 = w.alloc (.cells #[.int .i64 0, .slice none 0 0] 24) := ⟨_, rfl⟩
  rw [← hw0] at r0 n0
  have hs0 : w.heap.size < w0.heap.size := by rw [hw0, World.size_alloc]; exact Nat.lt_succ_self _
  go_enter Tryz.func8, Tryz.ntmps8
  go_upto_region 1 with fail
  rw [← hw0]
  have H0 := Lib.hid (And.intro r0 (And.intro n0 hs0))
  clear r0 n0 hs0 hw0 hL
  go_upto_region 2 with (go_at_call 26; refine (parseCodeS_any L _ HLL.out).mono ?_; rintro e w1 ⟨u, vs, rows, p, ok, rfl, ho1, hf1, hp1, hn1⟩; obtain ⟨a1, c1, hv1, _, _⟩ := ho1.outer.shape'; obtain ⟨l1, hl1⟩ : ∃ l, u = .slice a1 l c1 := ⟨_, hv1⟩; subst hl1; clear hv1; have H1 := Lib.hid (And.intro ho1 (And.intro hf1 (And.intro hp1 hn1))); clear ho1 hf1 hp1 hn1)
  have B1 := Lib.hid (H0.out.1.new H1.out.2.2.2)
  have B2 := Lib.hid (B1.out.new (New.alloc w1 (.cells #[.int .i64 p, .slice a1 l1 c1] 24)))
  have C2 := Lib.hid (Blk2.alloc w1 (.int .i64 p) (.slice a1 l1 c1) 24)
  obtain ⟨p0, p1, p2, p3⟩ := B2.out.cells
  obtain ⟨q0, q1, q2, q3⟩ := C2.out.cells
  have N2 : Hid (New w (w1.alloc (.cells #[.int .i64 p, .slice a1 l1 c1] 24))) := (H0.out.2.1.trans H1.out.2.2.2).trans (New.alloc _ _)
  cases ok with
  | false =>
    obtain ⟨x0, x1, hx⟩ := B2.out.put (.int .i64 0) (.slice none 0 0)
    have HX := Lib.hid hx
    clear hx
    go_wp2_with fail
    refine bodyPost_ret (v := .tuple #[.agg #[.int .i64 0, .slice none 0 0], .bool false]) (by simp [results, go_sem, x0, x1]) rfl ?_
    exact ⟨.slice none 0 0, [], [], 0, false, rfl, ⟨Own.nil _ _, rfl, fun i hi => absurd hi (Nat.not_lt_zero i), fun i j hi => absurd hi (Nat.not_lt_zero i)⟩, ⟨From.nil _, fun i hi => absurd hi (Nat.not_lt_zero i)⟩, H1.out.2.2.1.no, New.then N2.out HX.out (fun i hi => by omega)⟩
  | true =>
    obtain ⟨x0, x1, hx⟩ := B2.out.put (.int .i64 p) (.slice a1 l1 c1)
    have HX := Lib.hid hx
    clear hx
    go_wp2_with fail
    refine bodyPost_ret (v := .tuple #[.agg #[.int .i64 p, .slice a1 l1 c1], .bool true]) (by simp [results, go_sem, x0, x1]) rfl ?_
    have ho := H1.out.1.new (New.alloc w1 (.cells #[.int .i64 p, .slice a1 l1 c1] 24))
    have hs := H0.out.2.1.size
    exact ⟨_, vs, rows, p, true, rfl, ho.chg HX.out (own_blk2 ho.outer B2.out (by decide)) (fun i hi => own_blk2 (ho.inner i hi) B2.out (by decide)), ⟨H1.out.2.1.1.mono hs, fun i hi => (H1.out.2.1.2 i hi).mono hs⟩, H1.out.2.2.1.yes, New.then N2.out HX.out (fun i hi => by omega)⟩
end Go.Proofs.YtcdbeepphdfipaaGreatDoor
