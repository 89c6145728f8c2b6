/- RunDesk of both: the answers to lines. -/
import Derived.Test.YtcdbeepphdfipaaGreatDoorAnsS
import Derived.Test.YtcdbeepphdfipaaGreatDoorTxtG
namespace Go.Proofs.YtcdbeepphdfipaaGreatDoor
open Go.RowKit
set_option linter.unusedVariables false

/-- The lines lie at v. -/
def IsS (w : World) (v : Value) (ls : List (List UInt8)) : Prop :=
  ∃ ao cap, v = .slice ao ls.length cap ∧ (ls.length ≤ cap ∧ (ao = none → cap = 0)) ∧ cap ≤ maxLen ∧
    ∀ i, i < ls.length → ∃ b o, ao = some ⟨b, o, none⟩ ∧ w.cell? ⟨b, o + i, none⟩ = some (.string (bs (ls.getD i [])))
theorem IsS.new {w w' : World} {v : Value} {ls : List (List UInt8)} (h : IsS w v ls) (hc : New w w') : IsS w' v ls := by
  obtain ⟨ao, cap, e, h1, h2, h3⟩ := h
  refine ⟨ao, cap, e, h1, h2, fun i hi => ?_⟩
  obtain ⟨b, o, hb, hcell⟩ := h3 i hi
  exact ⟨b, o, hb, hc.cellNew hcell⟩
theorem IsS.at {w : World} {ao : Option Addr} {n cap : Nat} {ls : List (List UInt8)} (h : IsS w (.slice ao n cap) ls) {i : Nat} (hi : i < n) : ∃ b o, ao = some ⟨b, o, none⟩ ∧ w.cell? ⟨b, o + i, none⟩ = some (.string (bs (ls.getD i []))) := by
  obtain ⟨ao', cap', e, h1, h2, h3⟩ := h
  simp only [Value.slice.injEq] at e
  obtain ⟨rfl, rfl, rfl⟩ := e
  exact h3 i hi
theorem IsS.shape {w : World} {v : Value} {ls : List (List UInt8)} (h : IsS w v ls) : ∃ ao n cap, v = .slice ao n cap ∧ Hid (n = ls.length) := by
  obtain ⟨ao, cap, e, _⟩ := h
  exact ⟨ao, _, cap, e, rfl⟩
theorem isBuilder_new {T e : TypeId} {B b : Nat} {l : List Value} {w w' : World} (h : Lib.IsBuilder T e B b l w) (hn : New w w') : Lib.IsBuilder T e B b l w' := by
  have key : ∀ p, Lib.BuilderAt T e B b p l w → Lib.BuilderAt T e B b p l w' := by
    rintro p ⟨hB, v, hb, ⟨h1, h2⟩, hne⟩
    refine ⟨hB, v, hn.heapAt hb (fun x => x), ⟨h1, ?_⟩, hne⟩
    rcases h2 with h2 | ⟨g, cap, cur, e1, e2, e3, e4⟩
    · exact .inl h2
    · exact .inr ⟨g, cap, cur, e1, e2, hn.heapAt e3 (fun x => x), e4⟩
  rcases h with h | h
  · exact .inl (key _ h)
  · exact .inr (key _ h)
/-- No line is too long. -/
def Fit (ls : List (List UInt8)) : Prop := ∀ i, (ls.getD i []).length ≤ 1100000

set_option maxRecDepth 100000 in
set_option maxHeartbeats 4000000 in
theorem specRunDesk_any (v : Value) (ls : List (List UInt8)) (w : World) (hs : IsS w v ls) (hf : Fit ls) (hl : ls.length ≤ 4611686018427387904) :
    Calls Tryz.prog 20 #[v] w fun e w' => EndT w e w' (DeskR ls) := by
  obtain ⟨ao, n, cap, rfl, HN⟩ := hs.shape
  have HS := Lib.hid hs
  have HF := Lib.hid hf
  have hnl : n ≤ 4611686018427387904 := by rw [HN.out]; exact hl
  clear hs hf hl
  by_cases h20 : 20 < n
  · go_enter Tryz.func20, Tryz.ntmps20
    go_wp2_with fail
    go_ret
    exact ⟨[], rfl, ⟨fun _ => rfl, fun h => by rw [← HN.out] at h; omega⟩, Chg.refl _ _⟩
  · go_enter Tryz.func20, Tryz.ntmps20
    go_wp2_with fail
    go_loopw [3, 4] (fun t3 t4 wr => ∃ (i : Nat) (s : ByteArray), t3 = .string s ∧ t4 = .int .i64 i ∧ i ≤ n ∧ s.size ≤ 61 * i ∧ Hid (∃ an, AnsL ls i an ∧ s = bs (deskTo an)) ∧ Hid (New w wr)) (fun _ t4 _ => n - (intOf t4).toNat)
    case atStart => exact ⟨0, _, rfl, rfl, Nat.zero_le _, Nat.le_refl _, ⟨[], ⟨rfl, fun i hi => absurd hi (Nat.not_lt_zero i)⟩, rfl⟩, Chg.refl _ _⟩
    case round =>
      obtain ⟨i, s, rfl, rfl, hi, hsz, HA, HW⟩ := hrel
      by_cases hin : i < n
      · obtain ⟨b, o, rfl, ck⟩ := (HS.out.new HW.out).at hin
        have KA := Lib.hid (specAnswer_any (ls.getD i []) wr (HF.out i))
        obtain ⟨Z, hZ⟩ : ∃ Z, Z = bs (ls.getD i []) := ⟨_, rfl⟩
        rw [← hZ] at ck KA
        clear hZ
        go_wp2_with fail
        refine KA.out.mono ?_
        rintro e w2 ⟨t, rfl, ht, hn2⟩
        have htl := ht.short
        obtain ⟨T, hT⟩ : ∃ T, T = bs t := ⟨_, rfl⟩
        rw [← hT]
        have hTs : T.size ≤ 60 := by rw [hT, bs_size]; exact htl
        have HT := Lib.hid (And.intro hT (And.intro ht hn2))
        clear hT ht hn2 htl
        have a1 := fun w => run_string_add_sum (P := Tryz.prog) w s T (by omega)
        have a2 := fun w => run_string_add_sum (P := Tryz.prog) w (s ++ T) ⟨#[10]⟩ (by rw [ByteArray.size_append]; show _ + _ + 1 ≤ _; omega)
        go_wp2_with fail
        go_roundw
        case rel => exact ⟨i + 1, s ++ T ++ ⟨#[10]⟩, by first | rfl | go_num, by go_num, by omega, by rw [ByteArray.size_append, ByteArray.size_append]; show _ + _ + 1 ≤ _; omega, (by
          obtain ⟨an, h1, h2⟩ := HA.out
          refine ⟨an ++ [t], h1.succ HT.out.2.1, ?_⟩
          rw [h2, HT.out.1, deskTo_snoc, show (⟨#[10]⟩ : ByteArray) = bs [10] from rfl, bs_append, bs_append]), HW.out.trans HT.out.2.2⟩
        case measure => simp [intOf]; omega
      · obtain rfl : i = n := by omega
        go_wp2_with fail
        go_ret
        obtain ⟨an, h1, h2⟩ := HA.out
        exact ⟨deskTo an, ret_sb h2, ⟨fun h => by rw [← HN.out] at h; exact absurd h h20, fun _ => ⟨an, by rw [← HN.out]; exact h1, rfl⟩⟩, HW.out⟩

set_option maxRecDepth 100000 in
set_option maxHeartbeats 4000000 in
theorem implRunDesk_any (v : Value) (ls : List (List UInt8)) (w : World) (hs : IsS w v ls) (hf : Fit ls) (hl : ls.length ≤ 4611686018427387904) (hv : ErrV w) (hm : MaxV w) :
    Calls Tryz.prog 22 #[v] w fun e w' => EndT w e w' (DeskR ls) := by
  obtain ⟨ao, n, cap, rfl, HN⟩ := hs.shape
  have HS := Lib.hid hs
  have HF := Lib.hid hf
  have HV := Lib.hid (And.intro hv hm)
  have hnl : n ≤ 4611686018427387904 := by rw [HN.out]; exact hl
  clear hs hf hl hv hm
  by_cases h20 : 20 < n
  · go_enter Tryz.func22, Tryz.ntmps22
    go_wp2_with fail
    go_ret
    exact ⟨[], rfl, ⟨fun _ => rfl, fun h => by rw [← HN.out] at h; omega⟩, Chg.refl _ _⟩
  · have h1 : New w (w.alloc (.cells #[.pointer none, .slice none 0 0] 72)) := New.alloc _ _
    have hB := Lib.fresh_isBuilder 72 5 w
    have H1 := Lib.hid (And.intro hB h1)
    clear hB h1
    go_enter Tryz.func22, Tryz.ntmps22
    go_wp2_with fail
    go_loopw [11] (fun t11 wr => ∃ (i : Nat) (an : List (List UInt8)), t11 = .int .i64 i ∧ i ≤ n ∧ Hid (AnsL ls i an) ∧ Hid (Lib.IsBuilder 72 5 w.heap.size w.heap.size (Lib.byteCells (deskTo an)) wr ∧ New w wr)) (fun t11 _ => n - (intOf t11).toNat)
    case atStart => exact ⟨0, [], rfl, Nat.zero_le _, ⟨rfl, fun i hi => absurd hi (Nat.not_lt_zero i)⟩, H1.out⟩
    case round =>
      obtain ⟨i, an, rfl, hi, HA, HL⟩ := hrel
      by_cases hin : i < n
      · obtain ⟨b, o, rfl, ck⟩ := (HS.out.new HL.out.2).at hin
        have hsz := HA.out.short
        have KA := Lib.hid (implAnswer_any (ls.getD i []) wr (HF.out i) (HV.out.1.new HL.out.2) (HV.out.2.new HL.out.2))
        obtain ⟨Z, hZ⟩ : ∃ Z, Z = bs (ls.getD i []) := ⟨_, rfl⟩
        rw [← hZ] at ck KA
        clear hZ
        go_wp2_with fail
        refine KA.out.mono ?_
        rintro e w2 ⟨t, rfl, ht, hn2⟩
        have htl := ht.short
        have hb2 : Lib.IsBuilder 72 5 w.heap.size w.heap.size (Lib.byteCells (deskTo an)) w2 := isBuilder_new HL.out.1 hn2
        obtain ⟨T, hT⟩ : ∃ T, T = bs t := ⟨_, rfl⟩
        rw [← hT]
        have hTs : T.size ≤ 60 := by rw [hT, bs_size]; exact htl
        have HT := Lib.hid (And.intro hT (And.intro ht (And.intro (HL.out.2.trans hn2) hb2)))
        clear hT ht hn2 htl hb2
        go_wp2_with fail
        refine (writeString_any _ _ _ _ _ HT.out.2.2.2 ?_ HT.out.2.2.1.size).mono ?_
        · rw [Lib.byteCells_length]; omega
        rintro e w3 ⟨rfl, hb3, hl3⟩
        have hn3 : New w w3 := Chg.of_below (Below.trans (Chg.below HT.out.2.2.1) hl3)
        have H3 := Lib.hid (And.intro hb3 hn3)
        clear hb3 hn3 hl3
        go_wp2_with fail
        refine (writeByte_any _ _ _ _ _ (.inr H3.out.1) ?_ H3.out.2.size).mono ?_
        · rw [List.length_append, Lib.byteCells_length, Lib.strCells_length]; omega
        rintro e w4 ⟨rfl, hb4, hl4⟩
        have hn4 : New w w4 := Chg.of_below (Below.trans (Chg.below H3.out.2) hl4)
        have H4 := Lib.hid (And.intro hb4 hn4)
        clear hb4 hn4 hl4
        go_wp2_with fail
        go_roundw
        case rel => exact ⟨i + 1, an ++ [t], by go_num, by omega, HA.out.succ HT.out.2.1, .inr (by
          have h := H4.out.1
          rw [HT.out.1, strCells_bs, byteCells_append, show [Value.int .u8 10] = Lib.byteCells [10] from rfl, byteCells_append, ← deskTo_snoc] at h
          exact h), H4.out.2⟩
        case measure => simp [intOf]; omega
      · obtain rfl : i = n := by omega
        go_wp2_with fail
        refine (Tryz.Builder_String_any _ _ _ _ HL.out.1 HL.out.2.size).mono ?_
        rintro e w2 ⟨rfl, hl2⟩
        have hn2 : New w w2 := Chg.of_below (Below.trans (Chg.below HL.out.2) hl2)
        have H2 := Lib.hid hn2
        clear hn2 hl2
        go_wp2_with fail
        go_ret
        exact ⟨deskTo an, ret_sb rfl, ⟨fun h => by rw [← HN.out] at h; exact absurd h h20, fun _ => ⟨an, by rw [← HN.out]; exact HA.out, rfl⟩⟩, H2.out⟩
end Go.Proofs.YtcdbeepphdfipaaGreatDoor
