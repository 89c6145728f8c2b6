/- CodeText of both. -/
import Derived.Test.YtcdbeepphdfipaaGreatDoorTxtD
import Derived.Test.YtcdbeepphdfipaaGreatDoorOwn2
import Derived.BigQuiet
namespace Go.Proofs.YtcdbeepphdfipaaGreatDoor
open Go.RowKit
set_option linter.unusedVariables false

/-- The text of a row. -/
def rowS (r : List Int) : ByteArray := bs (rowT r)
theorem rows_map (rows : List (List Int)) : (rows.map rowS).map (·.data.toList) = rows.map rowT := by
  rw [List.map_map]
  exact List.map_congr_left (fun r _ => bs_list _)

set_option maxHeartbeats 1000000 in
theorem specCodeText_any (p : Int) (v : Value) (rows : List (List Int)) (w : World) (hr : IsR w v rows) :
    Calls Tryz.prog 15 #[.agg #[.int .i64 p, v]] w fun e w' => (∃ s, e = .returned (.string s) ∧ TxtR p rows s) ∧ New w w' := by
  obtain ⟨ao, n, cap, rfl, HN, hn⟩ := hr.shape
  have HR := Lib.hid hr
  have h1 : New w (w.alloc (.cells #[.int .i64 p, .slice ao n cap] 24)) := New.alloc _ _
  have b1 := Blk2.alloc w (.int .i64 p) (.slice ao n cap) 24
  clear hr
  go_enter Tryz.func15, Tryz.ntmps15
  go_wp2_with fail
  refine (validCode_any p _ rows _ (HR.out.new h1)).mono ?_
  rintro e w2 ⟨⟨b, rfl, hb⟩, hn2⟩
  have h2 := h1.trans hn2
  obtain ⟨c0, c1, _, _⟩ := (b1.new hn2).cells
  have HB := Lib.hid hb
  have H2 := Lib.hid h2
  clear hb h1 hn2 b1 h2
  cases b with
  | false =>
    go_wp2_with fail
    go_ret
    exact ⟨⟨_, rfl, fun h => absurd (HB.out.2 h) (by simp), fun _ => rfl⟩, H2.out⟩
  | true =>
    have hv := HB.out.1 rfl
    obtain ⟨hp, hd, r1, r6, h7⟩ := hv.digs
    have hle := rowsTo_le h7 rows.length (Nat.le_refl _)
    have HV := Lib.hid hv
    have hnum := Lib.hid (fun W => number_any p hp.1 hp.2 W)
    have hrow := Lib.hid (fun W h => rowsText_any (.slice ao n cap) rows W h hd r6 h7)
    obtain ⟨S, hS⟩ : ∃ S, S = bs (rowsTo rows rows.length) := ⟨_, rfl⟩
    have hS1 : S.size ≤ 48 := by rw [hS, bs_size]; omega
    rw [← hS] at hrow
    have HS := Lib.hid hS
    have a1 := fun w => run_string_add_sum (P := Tryz.prog) w (bs [digB p]) ⟨#[58]⟩ (by rw [bs_size]; show 1 + 1 ≤ _; omega)
    have a2 := fun w => run_string_add_sum (P := Tryz.prog) w (bs [digB p] ++ ⟨#[58]⟩) S (by rw [ByteArray.size_append, bs_size]; show 1 + 1 + _ ≤ _; omega)
    clear hv hp hd r1 r6 h7 hle hS hS1
    go_wp2_with fail
    go_quiet (first | (go_at_call 40; exact Calls.quiet_of_same ((hnum.out _).mono (fun e w' h => ⟨h.1, h.2.symm⟩))) | (go_at_call 41; exact Calls.quiet_of_same ((hrow.out _ (HR.out.new (H2.out.trans (New.drewN _ _)))).mono (fun e w' h => ⟨h.1, h.2.symm⟩))))
    go_wp2_with fail
    go_ret
    refine ⟨⟨_, rfl, fun _ => ?_, fun h => absurd HV.out h⟩, H2.out.trans (New.drewN _ _)⟩
    rw [HS.out, show (⟨#[58]⟩ : ByteArray) = bs [58] from rfl, bs_append, bs_append]
    rfl

set_option maxHeartbeats 2000000 in
theorem implCodeText_any (p : Int) (v : Value) (rows : List (List Int)) (w : World) (hr : IsR w v rows) :
    Calls Tryz.prog 14 #[.agg #[.int .i64 p, v]] w fun e w' => (∃ s, e = .returned (.string s) ∧ TxtR p rows s) ∧ New w w' := by
  obtain ⟨ao, n, cap, rfl, HN, hn⟩ := hr.shape
  have HR := Lib.hid hr
  have h1 : New w (w.alloc (.cells #[.int .i64 p, .slice ao n cap] 24)) := New.alloc _ _
  have b1 := Blk2.alloc w (.int .i64 p) (.slice ao n cap) 24
  clear hr
  go_enter Tryz.func14, Tryz.ntmps14
  go_wp2_with fail
  refine (implValidCode_any p _ rows _ (HR.out.new h1)).mono ?_
  rintro e w2 ⟨⟨b, rfl, hb⟩, hn2⟩
  have h2 := h1.trans hn2
  have B2 := Lib.hid (b1.new hn2)
  obtain ⟨c0, c1, _, _⟩ := B2.out.cells
  have HB := Lib.hid hb
  have H2 := Lib.hid h2
  clear hb h1 hn2 b1 h2
  cases b with
  | false =>
    go_wp2_with fail
    go_ret
    exact ⟨⟨_, rfl, fun h => absurd (HB.out.2 h) (by simp), fun _ => rfl⟩, H2.out⟩
  | true =>
    have hv := HB.out.1 rfl
    have hn6 : n ≤ 6 := by rw [HN.out]; exact hv.digs.2.2.2.1
    have HV := Lib.hid hv
    clear hv
    go_wp2_with (at_make; refine wpList_mk rfl _ _ _ rfl tyStr _ _ _ _ 0 n rfl rfl rfl rfl (Nat.zero_le _) (by omega) ?_; intro v3 w3 hv3 ho3 hn3 hs3; subst hv3; have HO3 := Lib.hid (And.intro ho3 hn3); clear ho3 hn3; obtain ⟨d0, d1, _, _⟩ := (B2.out.new HO3.out.2).cells)
    go_loopw [3, 16] (fun t3 t16 wr => ∃ (i l c : Nat) (ad : Option Addr), t3 = .slice ad l c ∧ t16 = .int .i64 i ∧ i ≤ n ∧ Hid (Own wr 9 (.slice ad l c) ((rows.take i).map (fun r => Value.string (rowS r))) ∧ From w.heap.size (.slice ad l c) ∧ New w wr ∧ Blk2 wr w.heap.size (.int .i64 p) (.slice ao n cap) 24)) (fun _ t16 _ => n - (intOf t16).toNat)
    case atStart => exact ⟨0, _, _, _, rfl, rfl, Nat.zero_le _, HO3.out.1, fun g hg => by simp [Value.ownBlock] at hg; have := H2.out.size; omega, H2.out.trans HO3.out.2, B2.out.new HO3.out.2⟩
    case round =>
      obtain ⟨i, l, c, ad, rfl, rfl, hi, HL⟩ := hrel
      by_cases hin : i < n
      · obtain ⟨b, o, u, rfl, ck, hu⟩ := (HR.out.new HL.out.2.2.1).at (i := i) hin
        have hir : i < rows.length := by rw [← HN.out]; exact hin
        have KD := Lib.hid (digits_any u (gr rows i) wr hu (fun k hk => HV.out.digs.2.1 i k hir hk) (HV.out.digs.2.2.2.2 i hir))
        have HI := Lib.hid hir
        clear hu hir
        go_wp2_with fail
        refine KD.out.mono ?_
        rintro e w4 ⟨rfl, hn4⟩
        have H4 := Lib.hid hn4
        clear hn4
        go_wp2_with (at_builtin; refine wpList_app1 rfl _ _ _ rfl tyStr w4 (HL.out.1.new H4.out) rfl _ _ rfl rfl rfl (by rw [List.length_map, List.length_take]; have := HI.out; omega) ?_; intro v5 w5 k1 k2 k3; obtain ⟨a5, c5, hv5, _, _⟩ := k1.shape'; have K5 := Lib.hid (And.intro k1 (And.intro k2 k3)); have HV5 := Lib.hid hv5; clear k1 k2 k3 hv5)
        obtain ⟨l5, hl5⟩ : ∃ l5, v5 = .slice a5 l5 c5 := ⟨_, HV5.out⟩
        subst hl5
        clear HV5
        go_wp2_with fail
        go_roundw
        case rel => exact ⟨i + 1, l5, c5, a5, rfl, by go_num, by omega, (by
          rw [List.take_add_one, List.map_append, List.getElem?_eq_getElem HI.out]
          have h := K5.out.1
          rw [gr_lt HI.out] at h
          exact h), (fun g hg => by
          rcases K5.out.2.2 g hg with h | h
          · exact HL.out.2.1 g h
          · have h1 := HL.out.2.2.1.size
            have h2 := H4.out.size
            omega), New.then (HL.out.2.2.1.trans H4.out) K5.out.2.1 (fun k hk => HL.out.2.1 k hk), (HL.out.2.2.2.new H4.out).chg K5.out.2.1 (fun e => own_blk2 (HL.out.1.new H4.out) (HL.out.2.2.2.new H4.out) (by decide) _ e rfl)⟩
        case measure => simp [intOf]; omega
      · obtain rfl : i = n := by omega
        obtain ⟨hp, hd, r1, r6, h7⟩ := HV.out.digs
        have hle := rowsTo_le h7 rows.length (Nat.le_refl _)
        obtain ⟨S, hS⟩ : ∃ S, S = bs (rowsTo rows rows.length) := ⟨_, rfl⟩
        have hS1 : S.size ≤ 48 := by rw [hS, bs_size]; omega
        have ho := HL.out.1
        rw [HN.out, List.take_length] at ho
        have hne : rows.map (fun r => Value.string (rowS r)) ≠ [] := by
          intro h
          have h2 := congrArg List.length h
          rw [List.length_map, List.length_nil] at h2
          omega
        obtain ⟨g, cp, hv5, hle5, _⟩ := ho.shape hne
        rw [List.length_map] at hv5 hle5
        simp only [Value.slice.injEq] at hv5
        obtain ⟨rfl, hl5, rfl⟩ := hv5
        have KJ : Hid (Calls Tryz.prog 38 #[.slice (some ⟨g, 0, none⟩) l c, .string ⟨#[47]⟩] wr fun e w' => e = .returned (.string S) ∧ New wr w') := by
          have e1 : Lib.join ((rows.map rowS).map (·.data.toList)) (⟨#[47]⟩ : ByteArray).data.toList = rowsTo rows rows.length := by
            rw [rows_map]; exact rowsTo_join rows
          have h := Tryz.strings_Join g 0 c (rows.map rowS) ⟨#[47]⟩ wr (fun j x hj => by
            have hj' : j < rows.length := by
              rcases Nat.lt_or_ge j rows.length with h | h
              · exact h
              · rw [List.getElem?_eq_none (by rw [List.length_map]; exact h)] at hj; cases hj
            rw [Nat.zero_add, (ho.cell (by rw [List.length_map]; exact hj')).1, gv_lt (by rw [List.length_map]; exact hj')]
            rw [List.getElem?_map, List.getElem?_eq_getElem hj'] at hj
            simp only [Option.map_some, Option.some.injEq] at hj
            rw [List.getElem_map, hj]) (ho.lt rfl) (by rw [List.length_map]; omega) (by rw [List.length_map]; omega) (by rw [e1]; omega)
          rw [e1, List.length_map] at h
          refine Lib.hid ?_
          rw [hl5]
          exact h.mono (fun e w' h => ⟨by rw [h.1, hS]; rfl, Chg.of_below h.2⟩)
        have HS := Lib.hid hS
        have a1 := fun w => run_string_add_sum (P := Tryz.prog) w (bs [digB p]) ⟨#[58]⟩ (by rw [bs_size]; show 1 + 1 ≤ _; omega)
        have a2 := fun w => run_string_add_sum (P := Tryz.prog) w (bs [digB p] ++ ⟨#[58]⟩) S (by rw [ByteArray.size_append, bs_size]; show 1 + 1 + _ ≤ _; omega)
        obtain ⟨e0, e1, _, _⟩ := HL.out.2.2.2.cells
        have hp0 := hp.1
        have hp9 := hp.2
        clear hp hd r1 r6 h7 hle hS hS1 ho hne hle5 hl5 d0 d1 c0 c1
        go_wp2_with (go_at_call 37; refine (itoa_any p hp0 hp9 _).mono ?_; rintro e w' ⟨rfl, rfl⟩)
        refine KJ.out.mono ?_
        rintro e w6 ⟨rfl, hn6'⟩
        have H6 := Lib.hid hn6'
        clear hn6'
        go_wp2_with fail
        go_ret
        refine ⟨⟨_, rfl, fun _ => ?_, fun h => absurd HV.out h⟩, HL.out.2.2.1.trans H6.out⟩
        rw [HS.out, show (⟨#[58]⟩ : ByteArray) = bs [58] from rfl, bs_append, bs_append]
        rfl
end Go.Proofs.YtcdbeepphdfipaaGreatDoor
