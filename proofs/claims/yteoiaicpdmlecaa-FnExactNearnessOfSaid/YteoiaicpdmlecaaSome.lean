/- The columns of a set, by the program and by the reference. -/
import Derived.Test.YteoiaicpdmlecaaSel
namespace Go.Proofs.Yteoiaicpdmlecaa
open Go.RowKit Mat
set_option linter.unusedVariables false

theorem bits_bit : ∀ s : Nat, s < 128 → ∀ j : Nat, j < 8 → bits BinOp.and IntKind.i64 ((s : Int) / 2 ^ j) 1 = (bitN s j : Int) := by decide +kernel

set_option maxRecDepth 100000 in
set_option maxHeartbeats 1000000 in
theorem some_any (s : Nat) (hs : s < 128) (v : Value) (rows : List (List Int)) (w : World) (hr : IsR w v rows) (hl : rows.length ≤ 7) (hc : ∀ i, i < rows.length → (gr rows i).length ≤ 7) :
    Calls Try.prog 125 #[v, .int .i64 s] w fun e w' => ∃ u vs, e = .returned u ∧ OwnR w' 31 3 u vs (rows.map (sel s)) ∧ FromR w.heap.size u vs (rows.map (sel s)) ∧ New w w' := by
  obtain ⟨ao, n, cap, rfl, HN, hn⟩ := hr.shape
  have hn7 : n ≤ 7 := by rw [HN.out]; exact hl
  have HR := Lib.hid hr
  have HC := Lib.hid hc
  clear hr hl hc
  go_enter Try.func125, Try.ntmps125
  go_wp2_with (at_make; refine wpList_mk rfl _ _ _ rfl tyRow _ _ _ _ 0 n rfl rfl rfl rfl (Nat.zero_le _) hn ?_; intro v3 w3 hv3 ho3 hn3 hs3; subst hv3; have HO3 := Lib.hid ho3; have HN3 := Lib.hid hn3; clear ho3 hn3 hs3)
  go_loopw [5, 16] (fun v5 i wr => ∃ (k : Nat) (vs : List Value), i = .int .i64 k ∧ k ≤ n ∧ OwnR wr 31 3 v5 vs ((rows.take k).map (sel s)) ∧ FromR w.heap.size v5 vs ((rows.take k).map (sel s)) ∧ New w wr) (fun _ i _ => n - (intOf i).toNat)
  case atStart =>
    exact ⟨0, [], rfl, Nat.zero_le _, ⟨HO3.out, rfl, fun i hi => by simp at hi, fun i j hi => by simp at hi⟩, ⟨From.new _ _ _, fun i hi => by simp at hi⟩, HN3.out⟩
  case round =>
    obtain ⟨k, vs, rfl, hk, hown, hfrom, hnew⟩ := hrel
    have HO := Lib.hid hown
    have HF := Lib.hid hfrom
    have HNEW := Lib.hid hnew
    obtain ⟨wo, hwo⟩ : ∃ wo : World, wo = wr := ⟨_, rfl⟩
    rw [← hwo] at HO HNEW hnew
    rw [← hwo]
    clear hwo hown hfrom
    by_cases hkn : k < n
    · have hkr : k < rows.length := by rw [← HN.out]; exact hkn
      obtain ⟨b, o, u, rfl, ck, hu⟩ := (HR.out.new hnew).at hkn
      obtain ⟨au, nu, cu, rfl, HNU, hnu⟩ := hu.shape
      have hnu7 : nu ≤ 7 := by rw [HNU.out]; exact HC.out k hkr
      have HU := Lib.hid hu
      clear hnew hu
      go_wp2_with fail
      go_loopw [8, 23] (fun v8 i wr => ∃ (j : Nat), i = .int .i64 j ∧ j ≤ nu ∧ Own wr 3 v8 ((selTo s (gr rows k) j).map (Value.int .i64)) ∧ From wo.heap.size v8 ∧ New wo wr) (fun _ i _ => nu - (intOf i).toNat)
      case atStart => exact ⟨0, rfl, Nat.zero_le _, Own.empty _ _, From.new _ _ _, New.alloc _ _⟩
      case round =>
        obtain ⟨j, rfl, hj, hown, hfrom, hnw⟩ := hrel
        have hlj : ((selTo s (gr rows k) j).map (Value.int .i64)).length ≤ 7 := by rw [List.length_map, selTo_length]; have := wtN_le s j; omega
        obtain ⟨a8, l8, c8, rfl, _, _, _⟩ := hown.opened (by unfold Mid; omega)
        have HP := Lib.hid (And.intro hown (And.intro hfrom hnw))
        have ck' := hnw.cellNew ck
        by_cases hjn : j < nu
        · obtain ⟨bj, oj, rfl, cj⟩ := (HU.out.new hnw).at hjn
          have hbit := bits_bit s hs j (by omega)
          have hlen : ((selTo s (gr rows k) j).map (Value.int .i64)).length + 1 ≤ 1099511627776 := by omega
          clear hown hfrom hnw
          rcases (show bitN s j = 0 ∨ bitN s j = 1 by unfold bitN; omega) with hb | hb
          · rw [hb] at hbit
            have HB := Lib.hid hb
            clear hb
            go_wp2_with fail
            go_roundw
            case rel => exact ⟨j + 1, by go_num, by omega, by rw [selTo, if_neg (by rw [HB.out]; omega)]; exact HP.out.1, HP.out.2.1, HP.out.2.2⟩
            case measure => simp [intOf]; omega
          · rw [hb] at hbit
            have HB := Lib.hid hb
            clear hb
            go_wp2_with (at_builtin; refine wpList_app1 rfl _ _ _ rfl tyInt wr HP.out.1 rfl _ _ rfl rfl rfl hlen ?_; intro v2 w2 k1 k2 k3; have K2 := Lib.hid (And.intro k1 (And.intro k2 k3)); clear k1 k2 k3)
            go_roundw
            case rel =>
              obtain ⟨k1, k2, k3⟩ := K2.out
              exact ⟨j + 1, by go_num, by omega, by rw [selTo, if_pos HB.out, List.map_append]; exact k1, (fun g hg => by
                rcases k3 g hg with x | x
                · exact HP.out.2.1 g x
                · exact Nat.le_trans HP.out.2.2.size x), HP.out.2.2.then k2 (fun i hi => HP.out.2.1 i hi)⟩
            case measure => simp [intOf]; omega
        · obtain rfl : j = nu := by omega
          have hlv : vs.length + 1 ≤ 1099511627776 := by rw [HO.out.len, List.length_map]; simp; omega
          clear hown hfrom hnw
          go_wp2_with (at_builtin; refine wpList_app1 rfl _ _ _ rfl tyRow wr (HO.out.outer.new HP.out.2.2) rfl _ _ rfl rfl rfl hlv ?_; intro v2 w2 k1 k2 k3; have K2 := Lib.hid (And.intro k1 (And.intro k2 k3)); clear k1 k2 k3)
          go_roundw
          case rel =>
            obtain ⟨m1, m2, m3⟩ := K2.out
            have hk1 : Own wr 3 (.slice a8 l8 c8) ((sel s (gr rows k)).map (Value.int .i64)) := by have h := HP.out.1; rw [HNU.out] at h; exact h
            obtain ⟨p1, p2, p3⟩ := OwnR.push HO.out HF.out HNEW.out.size HP.out.2.2 hk1 HP.out.2.1 m1 m2 m3
            refine ⟨k + 1, vs ++ [Value.slice a8 l8 c8], by go_num, by omega, ?_, ?_, New.then HNEW.out p3 (fun i hi => HF.out.1 i hi)⟩
            · rw [take_succ_gr hkr, List.map_append]; exact p1
            · rw [take_succ_gr hkr, List.map_append]; exact p2
          case measure => simp [intOf]; omega
    · obtain rfl : k = n := by omega
      go_wp2_with fail
      go_ret
      have e : rows.take k = rows := List.take_of_length_le (by rw [← HN.out]; exact Nat.le_refl _)
      have h1 := HO.out
      have h2 := HF.out
      rw [e] at h1 h2
      exact ⟨_, vs, rfl, h1, h2, HNEW.out⟩
end Go.Proofs.Yteoiaicpdmlecaa
