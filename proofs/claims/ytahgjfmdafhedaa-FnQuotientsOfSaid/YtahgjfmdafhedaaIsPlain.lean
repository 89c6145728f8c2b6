/- IsPlain of both. -/
import Derived.Test.YtahgjfmdafhedaaKnow
import Derived.Test.YtahgjfmdafhedaaLawK
import Derived.Test.YtahgjfmdafhedaaBase
namespace Go.Proofs.Ytahgjfmdafhedaa
open Go.RowKit
set_option linter.unusedVariables false

/-- The first columns are the message. -/
def IsPl (p : Int) (rows : List (List Int)) : Prop := ValidC p rows ∧ ∀ i k, i < rows.length → k < rows.length → gi (gr rows i) k = if i = k then 1 else 0

set_option maxHeartbeats 1000000 in
theorem implIsPlain_any (p : Int) (v : Value) (rows : List (List Int)) (w : World) (hr : IsR w v rows) :
    Calls Try.prog 17 #[.agg #[.int .i64 p, v]] w fun e w' => SaysB e (IsPl p rows) ∧ New w w' := by
  obtain ⟨ao, n, cap, rfl, HN, hn⟩ := hr.shape
  have HR := Lib.hid hr
  clear hr
  have h1 : New w (w.alloc (.cells #[.int .i64 p, .slice ao n cap] 28)) := New.alloc _ _
  have b1 := Blk2.alloc w (.int .i64 p) (.slice ao n cap) 28
  go_enter Try.func17, Try.ntmps17
  go_wp2_with fail
  refine (implValidCode_any _ _ rows _ (HR.out.new h1)).mono ?_
  rintro e w2 ⟨⟨b, rfl, hb⟩, hn2⟩
  have h2 := h1.trans hn2
  have b2 := b1.new hn2
  have HB := Lib.hid hb
  clear hb hn2 b1 h1
  obtain ⟨c0, c1, _, _⟩ := b2.cells
  cases b with
  | false =>
    go_wp2_with fail
    go_ret
    exact ⟨⟨false, rfl, (fun h => by cases h), fun h => HB.out.2 h.1⟩, h2⟩
  | true =>
    have hv := HB.out.1 rfl
    have HV := Lib.hid hv
    have hfew := hv.few
    have hnm : (1 ≤ n ∧ n ≤ 4) ∧ n ≤ (gr rows 0).length ∧ (gr rows 0).length ≤ 7 := by rw [HN.out]; omega
    obtain ⟨m, hm⟩ : ∃ m, m = (gr rows 0).length := ⟨_, rfl⟩
    rw [← hm] at hnm
    have HM := Lib.hid hm
    have HF := Lib.hid hfew
    clear hfew hv hm HB
    go_wp2_with fail
    go_loopw [12] (fun i wr => ∃ k : Nat, i = .int .i64 k ∧ k ≤ n ∧ New w wr ∧ Blk2 wr w.heap.size (.int .i64 p) (.slice ao n cap) 28 ∧ Hid (∀ i j, i < k → j < n → gi (gr rows i) j = if i = j then 1 else 0)) (fun i _ => n - (intOf i).toNat)
    case atStart => exact ⟨0, rfl, Nat.zero_le _, h2, b2, fun i j hi => by omega⟩
    case round =>
      obtain ⟨i, rfl, hi, hnew, hb2, HD⟩ := hrel
      obtain ⟨wo, hwo⟩ : ∃ wo : World, wo = wr := ⟨_, rfl⟩
      rw [← hwo] at hnew hb2
      rw [← hwo]
      clear hwo
      obtain ⟨c0, c1, _, _⟩ := hb2.cells
      by_cases hin : i < n
      · have hir : i < rows.length := by rw [← HN.out]; exact hin
        obtain ⟨b', o', u, rfl, ci, hu⟩ := (HR.out.new hnew).at hin
        obtain ⟨ai, mi, capi, rfl, HMI, hmi⟩ := hu.shape
        have hmm : mi = m := by rw [HMI.out, HM.out]; exact (HF.out.2.2.2.2 i hir).1
        subst hmm
        go_wp2_with fail
        go_loopw [20] (fun j wr => ∃ k : Nat, j = .int .i64 k ∧ k ≤ n ∧ New wo wr ∧ Hid (∀ j, j < k → gi (gr rows i) j = if i = j then 1 else 0)) (fun j _ => n - (intOf j).toNat)
        case atStart => exact ⟨0, rfl, Nat.zero_le _, Chg.refl _ _, fun j hj => by omega⟩
        case round =>
          obtain ⟨j, rfl, hj, hnw, HJ⟩ := hrel
          have ci' := hnw.cellNew ci
          obtain ⟨d0, d1, _, _⟩ := (hb2.new hnw).cells
          by_cases hjn : j < n
          · have hjm : j < mi := by omega
            obtain ⟨bj, oj, rfl, cj⟩ := (hu.new hnw).at hjm
            obtain ⟨x, hx⟩ : ∃ x, x = gi (gr rows i) j := ⟨_, rfl⟩
            rw [← hx] at cj
            have hx0 : 0 ≤ x := by rw [hx]; exact ((HF.out.2.2.2.2 i hir).2 j (by rw [← HM.out]; exact hjm)).1
            have HX := Lib.hid hx
            clear hx
            by_cases hij : i = j
            · subst hij
              by_cases h1x : x = 1
              · subst h1x
                go_wp2_with fail
                go_roundw
                case rel =>
                  refine ⟨i + 1, by go_num, by omega, hnw, fun l hl => ?_⟩
                  by_cases e : l = i
                  · rw [e, ← HX.out]; simp
                  · exact HJ.out l (by omega)
                case measure => simp [intOf]; omega
              · have hd : decide (x = 1) = false := by simp; exact h1x
                have hd2 : (x == 1) = false := by simp; exact h1x
                go_wp2_with fail
                go_ret
                exact ⟨⟨false, rfl, (fun h => by cases h), fun h => by have := h.2 i i hir hir; rw [if_pos rfl, ← HX.out] at this; exact absurd this h1x⟩, hnew.trans hnw⟩
            · have hd1 : decide ((i : Int) = j) = false := by simp; omega
              have hd2 : ((i : Int) == (j : Int)) = false := by simp; omega
              have hjr : j < rows.length := by rw [← HN.out]; exact hjn
              by_cases h0x : x = 0
              · subst h0x
                go_wp2_with fail
                go_roundw
                case rel =>
                  refine ⟨j + 1, by go_num, by omega, hnw, fun l hl => ?_⟩
                  by_cases e : l = j
                  · rw [e, ← HX.out, if_neg hij]
                  · exact HJ.out l (by omega)
                case measure => simp [intOf]; omega
              · by_cases h1x : x = 1
                · have HX0 := Lib.hid h0x
                  clear h0x
                  subst h1x
                  go_wp2_with fail
                  go_ret
                  exact ⟨⟨false, rfl, (fun h => by cases h), fun h => by have := h.2 i j hir hjr; rw [if_neg hij, ← HX.out] at this; exact absurd this HX0.out⟩, hnew.trans hnw⟩
                · have hd3 : decide (x = 1) = false := by simp; exact h1x
                  have hd4 : (x == 1) = false := by simp; exact h1x
                  have hgt : 1 < x := by omega
                  go_wp2_with fail
                  go_ret
                  exact ⟨⟨false, rfl, (fun h => by cases h), fun h => by have := h.2 i j hir hjr; rw [if_neg hij, ← HX.out] at this; exact absurd this h0x⟩, hnew.trans hnw⟩
          · obtain rfl : j = n := by omega
            go_wp2_with fail
            go_roundw
            case rel =>
              refine ⟨i + 1, by go_num, by omega, hnew.trans hnw, hb2.new hnw, fun l q hl hq => ?_⟩
              by_cases e : l = i
              · rw [e]; exact HJ.out q hq
              · exact HD.out l q (by omega) hq
            case measure => simp [intOf]; omega
      · obtain rfl : i = n := by omega
        go_wp2_with fail
        go_ret
        exact ⟨⟨true, rfl, (fun _ => ⟨HV.out, fun i j hi hj => HD.out i j (by rw [HN.out]; exact hi) (by rw [HN.out]; exact hj)⟩), fun _ => by trivial⟩, hnew⟩
end Go.Proofs.Ytahgjfmdafhedaa
