/- EncodeWord of both. -/
import Derived.Test.YtdebkeicdfljlaaEncode
namespace Go.Proofs.Ytdebkeicdfljlaa
open Go.RowKit Mat
set_option linter.unusedVariables false

theorem validWord_any (p : Int) (v : Value) (xs : List Int) (k : Nat) (w : World) (hx : IsI w v xs) (hp : -1000 ≤ p ∧ p ≤ 1000) (hk : k ≤ 1000) :
    Calls Try.prog 61 #[.int .i64 p, v, .int .i64 k] w fun e w' => e = .returned (.bool (hasB p xs && decide (xs.length = k))) ∧ w = w' := by
  obtain ⟨ao, n, cap, rfl, HN, hn⟩ := hx.shape
  have HX := Lib.hid hx
  clear hx
  go_enter Try.func61, Try.ntmps61
  go_wp2_with fail
  go_loop [7] (fun i => ∃ j : Nat, i = .int .i64 j ∧ j ≤ n ∧ Hid (∀ l, l < j → inB (gi xs l) 0 (p - 1) = true)) (fun i => n - (intOf i).toNat)
  case atStart => exact ⟨0, rfl, Nat.zero_le _, fun l hl => by omega⟩
  case round =>
    obtain ⟨j, rfl, hj, HD⟩ := hrel
    by_cases hjn : j < n
    · obtain ⟨b, o, rfl, c⟩ := HX.out.at hjn
      cases hb : inB (gi xs j) 0 (p - 1) with
      | false =>
        have HQ := Lib.hid (hasB_no (p := p) (by rw [← HN.out]; exact hjn) hb)
        go_wp2_with (go_at_call 66; refine (inRange_any _ _ _ _).mono ?_; rintro e w' ⟨rfl, rfl⟩)
        go_ret
        exact ⟨by rw [HQ.out]; rfl, rfl⟩
      | true =>
        have HB := Lib.hid hb
        go_wp2_with (go_at_call 66; refine (inRange_any _ _ _ _).mono ?_; rintro e w' ⟨rfl, rfl⟩)
        go_round
        case rel =>
          refine ⟨j + 1, by go_num, by omega, fun l hl => ?_⟩
          by_cases e : l = j
          · rw [e]; exact HB.out
          · exact HD.out l (by omega)
        case measure => simp [intOf]; omega
    · obtain rfl : j = n := by omega
      have hh : hasB p xs = true := hasB_iff.2 (fun i hi => inB_iff.1 (HD.out i (by rw [HN.out]; exact hi)))
      have HH := Lib.hid hh
      clear hh
      go_wp2_with fail
      go_ret
      refine ⟨ret_bool ?_, rfl⟩
      rw [HH.out, ← HN.out, Bool.true_and]
      rw [Bool.eq_iff_iff]
      simp
      omega

/-- A valid code and a message of it. -/
def MsgC (p : Int) (rows : List (List Int)) (m : List Int) : Prop := ValidC p rows ∧ m.length = rows.length ∧ hasB p m = true
/-- What EncodeWord answers. -/
def EncR (p : Int) (rows : List (List Int)) (m : List Int) (out : List Int) : Prop :=
  (MsgC p rows m → out = encZ p (gr rows 0).length rows m m.length) ∧ (¬ MsgC p rows m → out = [])
theorem EncR.unique {p : Int} {rows : List (List Int)} {m a b : List Int} (h : EncR p rows m a) (h' : EncR p rows m b) : a = b := by
  by_cases c : MsgC p rows m
  · rw [h.1 c, h'.1 c]
  · rw [h.2 c, h'.2 c]

theorem EncR.small {p : Int} {rows : List (List Int)} {m a : List Int} (h : EncR p rows m a) : a.length ≤ 1048576 := by
  by_cases c : MsgC p rows m
  · rw [h.1 c, encZ_length]; have := c.1.few; omega
  · rw [h.2 c]; simp

/-- It ends with a slice of numbers of its own. -/
def GivesI (w : World) (e : Ending) (w' : World) (Q : List Int → Prop) : Prop :=
  ∃ u out, e = .returned u ∧ Own w' 3 u (out.map (Value.int .i64)) ∧ From w.heap.size u ∧ Q out ∧ New w w'

theorem givesNil {w w' : World} {Q : List Int → Prop} (h : New w w') (hq : Q []) : GivesI w (.returned (.slice none 0 0)) w' Q :=
  ⟨_, [], rfl, Own.nil _ _, (fun g hg => by simp [Value.ownBlock] at hg), hq, h⟩

theorem ValidC.rowsOk {p : Int} {rows : List (List Int)} (h : ValidC p rows) : RowsOk p (gr rows 0).length rows := fun i hi => h.few.2.2.2.2 i hi
theorem ValidC.prime {p : Int} {rows : List (List Int)} (h : ValidC p rows) : 2 ≤ p ∧ p ≤ 7 := by
  have := (vtB_iff.1 h.1).1
  omega

set_option maxHeartbeats 1000000 in
theorem specEncodeWord_any (p : Int) (v vm : Value) (rows : List (List Int)) (m : List Int) (w : World) (hr : IsR w v rows) (hm : IsI w vm m) :
    Calls Try.prog 26 #[.agg #[.int .i64 p, v], vm] w fun e w' => GivesI w e w' (EncR p rows m) := by
  obtain ⟨ao, n, cap, rfl, HN, hn⟩ := hr.shape
  obtain ⟨am, nm, cm, rfl, HNM, hnm⟩ := hm.shape
  have HR := Lib.hid hr
  have HM := Lib.hid hm
  clear hr hm
  have h1 : New w (w.alloc (.cells #[.int .i64 p, .slice ao n cap] 27)) := New.alloc _ _
  have b1 := Blk2.alloc w (.int .i64 p) (.slice ao n cap) 27
  go_enter Try.func26, Try.ntmps26
  go_wp2_with fail
  refine (validCode_any _ _ rows _ (HR.out.new h1)).mono ?_
  rintro e w2 ⟨⟨b, rfl, hb⟩, hn2⟩
  have h2 := h1.trans hn2
  have b2 := b1.new hn2
  have HB := Lib.hid hb
  clear hb hn2 b1 h1
  obtain ⟨c0, c1, _, _⟩ := b2.cells
  cases b with
  | false =>
    go_wp2_with fail
    go_ret
    exact givesNil h2 ⟨(fun h => by have := HB.out.2 h.1; cases this), fun _ => rfl⟩
  | true =>
    have hv := HB.out.1 rfl
    have hp := hv.prime
    have hf := hv.few
    have hk : n ≤ 4 := by rw [HN.out]; omega
    have HV := Lib.hid hv
    have HF := Lib.hid hf
    clear hv hf HB
    go_wp2_with fail
    refine (validWord_any p _ m n _ (HM.out.new h2) (by omega) (by omega)).mono ?_
    rintro e w3 ⟨rfl, rfl⟩
    cases hw : (hasB p m && decide (m.length = n)) with
    | false =>
      have HW := Lib.hid hw
      clear hw
      go_wp2_with fail
      go_ret
      exact givesNil h2 ⟨(fun h => by have := HW.out; rw [h.2.2, h.2.1, HN.out] at this; simp at this), fun _ => rfl⟩
    | true =>
      have hw2 : hasB p m = true ∧ m.length = rows.length := by rw [Bool.and_eq_true, decide_eq_true_eq] at hw; exact ⟨hw.1, by rw [hw.2]; exact HN.out⟩
      have HW := Lib.hid hw2
      clear hw hw2
      go_wp2_with fail
      refine (specEncode_any p (gr rows 0).length _ _ rows m _ hp (by have := HF.out; omega) (HR.out.new h2) (HM.out.new h2) HV.out.rowsOk HF.out.1 (Nat.le_of_eq HW.out.2) (hasB_iff.1 HW.out.1)).mono ?_
      rintro e w4 ⟨u, rfl, ho, hfr, hn4⟩
      have HG := Lib.hid (show GivesI w (.returned u) w4 (EncR p rows m) from ⟨u, _, rfl, ho, (fun g hg => Nat.le_trans h2.size (hfr g hg)), ⟨fun _ => rfl, fun h => absurd ⟨HV.out, HW.out.2, HW.out.1⟩ h⟩, h2.trans hn4⟩)
      clear ho hfr hn4
      go_wp2_with fail
      go_ret
      exact HG.out

set_option maxHeartbeats 1000000 in
theorem implEncodeWord_any (p : Int) (v vm : Value) (rows : List (List Int)) (m : List Int) (w : World) (hr : IsR w v rows) (hm : IsI w vm m) :
    Calls Try.prog 28 #[.agg #[.int .i64 p, v], vm] w fun e w' => GivesI w e w' (EncR p rows m) := by
  obtain ⟨ao, n, cap, rfl, HN, hn⟩ := hr.shape
  obtain ⟨am, nm, cm, rfl, HNM, hnm⟩ := hm.shape
  have HR := Lib.hid hr
  have HM := Lib.hid hm
  clear hr hm
  have h1 : New w (w.alloc (.cells #[.int .i64 p, .slice ao n cap] 27)) := New.alloc _ _
  have b1 := Blk2.alloc w (.int .i64 p) (.slice ao n cap) 27
  go_enter Try.func28, Try.ntmps28
  go_wp2_with fail
  refine (known_any _ _ rows _ (HR.out.new h1)).mono ?_
  rintro e w2 ⟨⟨b, rfl, hb⟩, hn2⟩
  have h2 := h1.trans hn2
  have b2 := b1.new hn2
  have HB := Lib.hid hb
  clear hb hn2 b1 h1
  obtain ⟨c0, c1, _, _⟩ := b2.cells
  cases b with
  | false =>
    go_wp2_with fail
    go_ret
    exact givesNil h2 ⟨(fun h => by have := HB.out.2 h.1; cases this), fun _ => rfl⟩
  | true =>
    have hv := HB.out.1 rfl
    have hp := hv.prime
    have hf := hv.few
    have hk : n ≤ 4 := by rw [HN.out]; omega
    have HV := Lib.hid hv
    have HF := Lib.hid hf
    clear hv hf HB
    by_cases hl : nm = n
    · have hlm : m.length = rows.length := by rw [← HN.out, ← HNM.out]; exact hl
      subst hl
      have HLM := Lib.hid hlm
      clear hlm
      go_wp2_with fail
      refine (has_any p _ m _ (HM.out.new h2) (by omega)).mono ?_
      rintro e w3 ⟨rfl, hn3⟩
      have h3 := h2.trans hn3
      obtain ⟨d0, d1, _, _⟩ := (b2.new hn3).cells
      clear c0 c1 b2 hn3 h2
      cases hw : hasB p m with
      | false =>
        have HW := Lib.hid hw
        clear hw
        go_wp2_with fail
        go_ret
        exact givesNil h3 ⟨(fun h => by have := HW.out; rw [h.2.2] at this; cases this), fun _ => rfl⟩
      | true =>
        have HW := Lib.hid hw
        clear hw
        go_wp2_with fail
        refine (encode_any p (gr rows 0).length _ _ rows m _ hp (by have := HF.out; omega) (HR.out.new h3) (HM.out.new h3) HV.out.rowsOk HF.out.1 (Nat.le_of_eq HLM.out) (hasB_iff.1 HW.out)).mono ?_
        rintro e w4 ⟨u, rfl, ho, hfr, hn4⟩
        have HG := Lib.hid (show GivesI w (.returned u) w4 (EncR p rows m) from ⟨u, _, rfl, ho, (fun g hg => Nat.le_trans h3.size (hfr g hg)), ⟨fun _ => rfl, fun h => absurd ⟨HV.out, HLM.out, HW.out⟩ h⟩, h3.trans hn4⟩)
        clear ho hfr hn4
        go_wp2_with fail
        go_ret
        exact HG.out
    · have hd : decide ((nm : Int) = n) = false := by simp; omega
      have hd2 : ((nm : Int) != (n : Int)) = true := by simp; omega
      have hlm : ¬ m.length = rows.length := by rw [← HN.out, ← HNM.out]; exact hl
      have HLM := Lib.hid hlm
      clear hlm
      go_wp2_with fail
      go_ret
      exact givesNil h2 ⟨(fun h => absurd h.2.1 HLM.out), fun _ => rfl⟩
end Go.Proofs.Ytdebkeicdfljlaa
