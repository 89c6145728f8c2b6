/- strings.Cut at one byte; a digit's number by Atoi. -/
import Derived.Test.YtcdbeepphdfipaaGreatDoorShelf
import Derived.Test.YtcdbeepphdfipaaGreatDoorPieS
import Derived.Lib.IndexLaws
namespace Go.Proofs.YtcdbeepphdfipaaGreatDoor
open Go.RowKit
set_option linter.unusedVariables false

theorem atoi_dig (q : Int) (h0 : 0 ≤ q) (h9 : q ≤ 9) : Lib.atoiAll [digB q] = .ok q := by
  have h : q = 0 ∨ q = 1 ∨ q = 2 ∨ q = 3 ∨ q = 4 ∨ q = 5 ∨ q = 6 ∨ q = 7 ∨ q = 8 ∨ q = 9 := by omega
  rcases h with rfl | rfl | rfl | rfl | rfl | rfl | rfl | rfl | rfl | rfl <;> decide +kernel

theorem toList_inj {a b : ByteArray} (h : a.toList = b.toList) : a = b := by
  have h2 : a.data.toList = b.data.toList := by simpa [ByteArray.toList_eq] using h
  exact ByteArray.ext (Array.toList_inj.1 h2)

theorem notin_of {L : List UInt8} {c : UInt8} (h : ∀ k : Nat, L[k]? ≠ some c) : c ∉ L := by
  intro hm
  obtain ⟨i, hi, e⟩ := List.getElem_of_mem hm
  exact h i (by rw [List.getElem?_eq_getElem hi, e])
theorem cut_some {L : List UInt8} {c : UInt8} {o : Nat} (h : Lib.indexByte L c = o) : o < L.length ∧ L = L.take o ++ c :: L.drop (o + 1) ∧ c ∉ L.take o := by
  obtain ⟨h1, h2⟩ := Lib.indexByte_some h
  have ho : o < L.length := by
    rcases Nat.lt_or_ge o L.length with k | k
    · exact k
    · rw [List.getElem?_eq_none k] at h1; cases h1
  refine ⟨ho, ?_, notin_of (fun k hk => ?_)⟩
  · rw [List.getElem?_eq_getElem ho] at h1
    simp only [Option.some.injEq] at h1
    have e := (List.take_append_drop o L).symm
    rw [List.drop_eq_getElem_cons ho, h1] at e
    exact e
  · rw [List.getElem?_take] at hk
    split at hk
    · rename_i hlt
      exact h2 k hlt hk
    · cases hk

set_option maxHeartbeats 1000000 in
theorem slIndex_one (L : List UInt8) (c : UInt8) (w : World) :
    Calls Tryz.prog 94 #[.string (bs L), .string ⟨#[c]⟩] w fun e w' => e = .returned (.int .i64 (Lib.indexByte L c)) ∧ w = w' := by
  obtain ⟨S, hS⟩ : ∃ S, S = bs L := ⟨_, rfl⟩
  obtain ⟨y, hy⟩ : ∃ y, y = c.toNat := ⟨_, rfl⟩
  obtain ⟨C, hC⟩ : ∃ C, C = bs [c] := ⟨_, rfl⟩
  have hC1 : (C.size : Int) = 1 := by rw [hC, bs_size]; rfl
  have hix : ∀ w, (Instr.index 9 (.string C) (.int .i64 0)).run Tryz.prog w = .ok (.int .u8 (y : Nat)) w := by
    obtain ⟨x, hx1, hx2⟩ := run_idx [c] 0 (by simp)
    intro w
    have h := hx2 w
    simp at hx1
    subst hx1
    rw [hy, hC]
    exact h
  have hI : Hid (Lib.indexByte S.data.toList (y : Int).toNat.toUInt8 = Lib.indexByte L c) := by
    show _ = _
    rw [hS, bs_list, hy, Int.toNat_natCast]
    congr 1
    exact UInt8.toNat_inj.1 (by simp)
  rw [show (⟨#[c]⟩ : ByteArray) = bs [c] from rfl, ← hC, ← hS]
  have HCS := Lib.hid (And.intro hC hS)
  clear hC hS hy
  go_enter Tryz.func94, Tryz.ntmps94
  go_wp2_with (go_at_call 132; refine (Tryz.stringslite_IndexByte S (y : Int) _).mono ?_; rintro e w' ⟨rfl, rfl⟩)
  · rename_i he
    go_ret
    refine ⟨ret_int ?_, rfl⟩
    have e1 : C.toList = S.toList := by simpa using he
    have e2 : C = S := toList_inj e1
    rw [HCS.out.1, HCS.out.2] at e2
    have e3 := congrArg (fun b => b.data.toList) e2
    simp only [bs_list] at e3
    rw [← e3]
    simp [Lib.indexByte]
  · go_ret
    exact ⟨ret_int (by rw [← hI.out]; simp), rfl⟩

theorem run_sto (L : List UInt8) (i : Nat) (h2 : i ≤ L.length) (w : World) : (Instr.slice 9 (.string (bs L)) none (some (.int .i64 (i : Int))) none).run Tryz.prog w = .ok (.string (bs (L.take i))) w := by
  rw [run_slice_string_to_if w _ _ _ _ Tryz.underlying9, if_pos (by rw [bs_size]; omega), bs, ByteArray.extract_mk]
  simp [bs]
/-- What Cut at one byte gives. -/
def CutR (L : List UInt8) (c : UInt8) (A B : List UInt8) (ok : Bool) : Prop := (ok = true ∧ L = A ++ c :: B ∧ c ∉ A) ∨ (ok = false ∧ A = L ∧ c ∉ L)
def EndC (L : List UInt8) (c : UInt8) (w : World) (e : Ending) (w' : World) : Prop := ∃ A B ok, e = .returned (.tuple #[.string (bs A), .string (bs B), .bool ok]) ∧ CutR L c A B ok ∧ New w w'

set_option maxHeartbeats 1000000 in
theorem slCut_one (L : List UInt8) (c : UInt8) (w : World) (hL : L.length ≤ 2000000) :
    Calls Tryz.prog 58 #[.string (bs L), .string ⟨#[c]⟩] w fun e w' => EndC L c w e w' := by
  obtain ⟨S, hS⟩ : ∃ S, S = bs L := ⟨_, rfl⟩
  obtain ⟨C, hC⟩ : ∃ C, C = (⟨#[c]⟩ : ByteArray) := ⟨_, rfl⟩
  have hC1 : (C.size : Int) = 1 := by rw [hC]; rfl
  obtain ⟨z, hz⟩ : ∃ z, z = Lib.indexByte L c := ⟨_, rfl⟩
  have KI := Lib.hid (slIndex_one L c w)
  have hz1 := Lib.indexByte_ge L c
  have HL := Lib.hid hL
  rw [← hz] at hz1 KI
  rw [← hC, ← hS] at KI ⊢
  by_cases hz0 : 0 ≤ z
  · obtain ⟨o, rfl⟩ : ∃ o : Nat, z = o := ⟨z.toNat, by omega⟩
    have HC := Lib.hid (cut_some hz.symm)
    have s1 := run_sto L o (Nat.le_of_lt HC.out.1)
    have s2 := run_slf L (o + 1) HC.out.1
    rw [← hS] at s1 s2
    have hoL : o ≤ 2000000 := by have := HC.out.1; omega
    have s2' : ∀ w, (Instr.slice 9 (.string S) (some (.int .i64 ((o : Int) + 1))) none none).run Tryz.prog w = .ok (.string (bs (L.drop (o + 1)))) w := fun w => by
      have h := s2 w
      rw [Int.natCast_add] at h
      exact h
    clear hS hC hz s2 hz1 hL
    go_enter Tryz.func58, Tryz.ntmps58
    go_wp2_with (go_at_call 94; refine KI.out.mono ?_; rintro e w' ⟨rfl, rfl⟩)
    go_quiet (fail)
    go_wp2_with fail
    refine bodyPost_ret (v := .tuple #[.string (bs (L.take o)), .string (bs (L.drop (o + 1))), .bool true]) (by simp [results, go_sem]) rfl ?_
    exact ⟨L.take o, L.drop (o + 1), true, rfl, .inl ⟨rfl, HC.out.2⟩, New.drewN _ _⟩
  · have hz2 : z = -1 := by omega
    have HN := Lib.hid (notin_of (Lib.indexByte_none (hz.symm.trans hz2)))
    subst hz2
    have HS := Lib.hid hS
    clear hS hC hz hz1 hL
    go_enter Tryz.func58, Tryz.ntmps58
    go_wp2_with (go_at_call 94; refine KI.out.mono ?_; rintro e w' ⟨rfl, rfl⟩)
    refine bodyPost_ret (v := .tuple #[.string S, .string ⟨#[]⟩, .bool false]) (by simp [results, go_sem]) rfl ?_
    exact ⟨L, [], false, by rw [← HS.out]; rfl, .inr ⟨rfl, rfl, HN.out⟩, Chg.refl _ _⟩

set_option maxHeartbeats 1000000 in
theorem cut_any (L : List UInt8) (c : UInt8) (w : World) (hL : L.length ≤ 2000000) :
    Calls Tryz.prog 27 #[.string (bs L), .string ⟨#[c]⟩] w fun e w' => EndC L c w e w' := by
  have KC := Lib.hid (slCut_one L c w hL)
  clear hL
  go_enter Tryz.func27, Tryz.ntmps27
  go_wp2_with (go_at_call 58; refine KC.out.mono ?_; rintro e w' ⟨A, B, ok, rfl, hr, hn⟩; have HR := Lib.hid (And.intro hr hn); clear hr hn)
  refine bodyPost_ret (v := .tuple #[.string (bs A), .string (bs B), .bool ok]) (by simp [results, go_sem]) rfl ?_
  exact ⟨A, B, ok, rfl, HR.out.1, HR.out.2⟩
end Go.Proofs.YtcdbeepphdfipaaGreatDoor
