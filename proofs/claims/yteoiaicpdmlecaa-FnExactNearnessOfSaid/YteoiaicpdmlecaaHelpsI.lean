/- The closure of impl.helpers. -/
import Derived.Test.YteoiaicpdmlecaaHelpM
import Derived.Test.YteoiaicpdmlecaaLeastI
import Derived.Test.YteoiaicpdmlecaaRk
import Derived.Test.YteoiaicpdmlecaaSkip
namespace Go.Proofs.Yteoiaicpdmlecaa
open Go.RowKit Mat
set_option linter.unusedVariables false

set_option maxRecDepth 100000 in
set_option maxHeartbeats 2000000 in
theorem helps1_any (q : Nat) [NeZero q] (n i g1 g2 g3 : Nat) (v : Value) (rows : List (List Int)) (w : World) (hr : IsR w v rows) (ht : TabOk q n rows) (hi : i < n) (hbi : Blk1 w g1 (.int .i64 i) 3) (hbf : Blk1 w g2 (.int .i64 q) 65) (hbc : Blk2 w g3 (.int .i64 q) v 27) :
    Asks Try.prog w 103 #[.pointer (some ⟨g1, 0, none⟩), .pointer (some ⟨g2, 0, none⟩), .pointer (some ⟨g3, 0, none⟩)] (2 ^ n) (HelpQ q rows n i) := by
  refine ⟨fun xs w' => by kernel_rfl, fun s w' hs hn => ?_⟩
  show Calls Try.prog 103 #[.int .i64 s, .pointer (some ⟨g1, 0, none⟩), .pointer (some ⟨g2, 0, none⟩), .pointer (some ⟨g3, 0, none⟩)] w' _
  obtain ⟨ao, m, cap, rfl, HN, hm⟩ := hr.shape
  have hn7 := ht.n7
  have hs128 : s < 128 := by have := pow_lt hn7; omega
  have hbit := bits_bit s hs128 i (by omega)
  have hbi' := hbi.new hn
  have hbf' := hbf.new hn
  have hbc' := hbc.new hn
  have HR := Lib.hid (hr.new hn)
  have HT := Lib.hid ht
  obtain ⟨ci, _⟩ := hbi'.cells
  obtain ⟨cf, _⟩ := hbf'.cells
  obtain ⟨c0, c1, _, _⟩ := hbc'.cells
  clear hr ht hs hbi hbf hbc
  go_enter Try.func103, Try.ntmps103
  go_wp2_with fail
  rcases (show bitN s i = 0 ∨ bitN s i = 1 by unfold bitN; omega) with hb | hb
  · rw [hb] at hbit
    have HB := Lib.hid hb
    have hwp := wrap_pow i (by omega)
    have hp7 := pow_lt (n := i) (by omega)
    have hos := or_small s hs128 i (by omega)
    have hor := or_i64 s hs128 (2 ^ i) (by have : 2 ^ i < 2 ^ 7 := Nat.pow_lt_pow_right (by omega) (by omega); omega)
    obtain ⟨P, hP⟩ : ∃ P, P = 2 ^ i := ⟨_, rfl⟩
    obtain ⟨T, hT⟩ : ∃ T, T = s ||| P := ⟨_, rfl⟩
    rw [← hP] at hwp hp7 hos hor
    rw [← hT] at hos hor
    have HPT := Lib.hid (And.intro hP hT)
    clear hP hT hb
    refine wp_region_held_drew (S := fun w'' => New w' w'') (by kernel_rfl) (New.drew _) (fun hHeld => ?_)
    refine held_take 0 (some 6) rfl rfl (by kernel_rfl) (by kernel_rfl) (by kernel_rfl) (fun _ _ _ h => h) rfl hHeld (v := ?_) (fun w' hS => by skip; go_simp; try with_reducible rfl) ?_
    simp only [Act.put, List.setIfInBounds_toArray, List.set_cons_zero, List.set_cons_succ]
    refine held_take 1 (some 7) rfl rfl (by kernel_rfl) (by kernel_rfl) (by kernel_rfl) (fun _ _ _ h => h) rfl hHeld (v := .int .i64 i) (fun w' hS => by obtain ⟨ci, _⟩ := (hbi'.new hS).cells; obtain ⟨cf, _⟩ := (hbf'.new hS).cells; obtain ⟨c0, c1, _, _⟩ := (hbc'.new hS).cells; go_simp; try with_reducible rfl) ?_
    simp only [Act.put, List.setIfInBounds_toArray, List.set_cons_zero, List.set_cons_succ]
    refine held_take 2 (some 8) rfl rfl (by kernel_rfl) (by kernel_rfl) (by kernel_rfl) (fun _ _ _ h => h) rfl hHeld (v := ?_) (fun w' hS => by skip; go_simp; try with_reducible rfl) ?_
    simp only [Act.put, List.setIfInBounds_toArray, List.set_cons_zero, List.set_cons_succ]
    refine held_take 3 (some 9) rfl rfl (by kernel_rfl) (by kernel_rfl) (by kernel_rfl) (fun _ _ _ h => h) rfl hHeld (v := .int .i64 0) (fun w' hS => by skip; go_simp; try omega) ?_
    simp only [Act.put, List.setIfInBounds_toArray, List.set_cons_zero, List.set_cons_succ]
    refine held_take 4 (some 10) rfl rfl (by kernel_rfl) (by kernel_rfl) (by kernel_rfl) (fun _ _ _ h => h) rfl hHeld (v := .bool true) (fun w' hS => by skip; go_simp; try with_reducible rfl) ?_
    simp only [Act.put, List.setIfInBounds_toArray, List.set_cons_zero, List.set_cons_succ]
    refine held_take 5 (some 11) rfl rfl (by kernel_rfl) (by kernel_rfl) (by kernel_rfl) (fun _ _ _ h => h) rfl hHeld (v := ?_) (fun w' hS => by skip; go_simp; try with_reducible rfl) ?_
    simp only [Act.put, List.setIfInBounds_toArray, List.set_cons_zero, List.set_cons_succ]
    refine held_take 6 (some 12) rfl rfl (by kernel_rfl) (by kernel_rfl) (by kernel_rfl) (fun _ _ _ h => h) rfl hHeld (v := .int .i64 q) (fun w' hS => by obtain ⟨ci, _⟩ := (hbi'.new hS).cells; obtain ⟨cf, _⟩ := (hbf'.new hS).cells; obtain ⟨c0, c1, _, _⟩ := (hbc'.new hS).cells; go_simp; try with_reducible rfl) ?_
    simp only [Act.put, List.setIfInBounds_toArray, List.set_cons_zero, List.set_cons_succ]
    refine held_take 7 (some 13) rfl rfl (by kernel_rfl) (by kernel_rfl) (by kernel_rfl) (fun _ _ _ h => h) rfl hHeld (v := ?_) (fun w' hS => by skip; go_simp; try with_reducible rfl) ?_
    simp only [Act.put, List.setIfInBounds_toArray, List.set_cons_zero, List.set_cons_succ]
    refine held_take 8 (some 14) rfl rfl (by kernel_rfl) (by kernel_rfl) (by kernel_rfl) (fun _ _ _ h => h) rfl hHeld (v := .slice ao m cap) (fun w' hS => by obtain ⟨ci, _⟩ := (hbi'.new hS).cells; obtain ⟨cf, _⟩ := (hbf'.new hS).cells; obtain ⟨c0, c1, _, _⟩ := (hbc'.new hS).cells; go_simp; try with_reducible rfl) ?_
    simp only [Act.put, List.setIfInBounds_toArray, List.set_cons_zero, List.set_cons_succ]
    refine held_take 9 (some 15) rfl rfl (by kernel_rfl) (by kernel_rfl) (by kernel_rfl) (fun _ _ _ h => h) rfl hHeld (v := ?_) (fun w' hS => by skip; go_simp; try with_reducible rfl) ?_
    simp only [Act.put, List.setIfInBounds_toArray, List.set_cons_zero, List.set_cons_succ]
    refine held_take 11 (some 17) rfl rfl (by kernel_rfl) (by kernel_rfl) (by kernel_rfl) (fun _ _ _ h => h) rfl hHeld (v := .int .i64 q) (fun w' hS => by obtain ⟨ci, _⟩ := (hbi'.new hS).cells; obtain ⟨cf, _⟩ := (hbf'.new hS).cells; obtain ⟨c0, c1, _, _⟩ := (hbc'.new hS).cells; go_simp; try with_reducible rfl) ?_
    simp only [Act.put, List.setIfInBounds_toArray, List.set_cons_zero, List.set_cons_succ]
    refine held_take 12 (some 18) rfl rfl (by kernel_rfl) (by kernel_rfl) (by kernel_rfl) (fun _ _ _ h => h) rfl hHeld (v := ?_) (fun w' hS => by skip; go_simp; try with_reducible rfl) ?_
    simp only [Act.put, List.setIfInBounds_toArray, List.set_cons_zero, List.set_cons_succ]
    refine held_take 13 (some 19) rfl rfl (by kernel_rfl) (by kernel_rfl) (by kernel_rfl) (fun _ _ _ h => h) rfl hHeld (v := .slice ao m cap) (fun w' hS => by obtain ⟨ci, _⟩ := (hbi'.new hS).cells; obtain ⟨cf, _⟩ := (hbf'.new hS).cells; obtain ⟨c0, c1, _, _⟩ := (hbc'.new hS).cells; go_simp; try with_reducible rfl) ?_
    simp only [Act.put, List.setIfInBounds_toArray, List.set_cons_zero, List.set_cons_succ]
    refine held_take 14 (some 20) rfl rfl (by kernel_rfl) (by kernel_rfl) (by kernel_rfl) (fun _ _ _ h => h) rfl hHeld (v := ?_) (fun w' hS => by skip; go_simp; try with_reducible rfl) ?_
    simp only [Act.put, List.setIfInBounds_toArray, List.set_cons_zero, List.set_cons_succ]
    refine held_take 15 (some 21) rfl rfl (by kernel_rfl) (by kernel_rfl) (by kernel_rfl) (fun _ _ _ h => h) rfl hHeld (v := .int .i64 i) (fun w' hS => by obtain ⟨ci, _⟩ := (hbi'.new hS).cells; obtain ⟨cf, _⟩ := (hbf'.new hS).cells; obtain ⟨c0, c1, _, _⟩ := (hbc'.new hS).cells; go_simp; try with_reducible rfl) ?_
    simp only [Act.put, List.setIfInBounds_toArray, List.set_cons_zero, List.set_cons_succ]
    refine held_take 16 (some 22) rfl rfl (by kernel_rfl) (by kernel_rfl) (by kernel_rfl) (fun _ _ _ h => h) rfl hHeld (v := .int .i64 P) (fun w' hS => by skip; go_simp; try with_reducible rfl) ?_
    simp only [Act.put, List.setIfInBounds_toArray, List.set_cons_zero, List.set_cons_succ]
    refine held_take 17 (some 23) rfl rfl (by kernel_rfl) (by kernel_rfl) (by kernel_rfl) (fun _ _ _ h => h) rfl hHeld (v := .int .i64 T) (fun w' hS => by skip; go_simp; try with_reducible rfl) ?_
    simp only [Act.put, List.setIfInBounds_toArray, List.set_cons_zero, List.set_cons_succ]
    refine held_only 10 (by kernel_rfl) rfl rfl (fun K hK => ?_)
    go_simp
    refine (rank_any q n _ rows s _ hs128 (HR.out.new (New.drew _)) HT.out).mono ?_
    rintro e w2 ⟨r1, rfl, hr1, hr7, hn2⟩
    have HR1 := Lib.hid hr1
    refine hK.out _ _ (hHeld.trans hn2) (fun hHeld2 => ?_)
    clear hK K hn2 hHeld hr1
    refine held_only 18 (by kernel_rfl) rfl rfl (fun K hK => ?_)
    go_simp
    refine (rank_any q n _ rows T _ hos (HR.out.new hHeld2) HT.out).mono ?_
    rintro e w3 ⟨r2, rfl, hr2, hr7', hn3⟩
    have HR2 := Lib.hid hr2
    refine hK.out _ _ (hHeld2.trans hn3) (fun hHeld3 => ?_)
    clear hK K hn3 hHeld2 hr2
    refine held_take 19 (some 25) rfl rfl (by kernel_rfl) (by kernel_rfl) (by kernel_rfl) (fun _ _ _ h => h) rfl hHeld3 (v := ?_) (fun w' hS => by skip; go_simp; try with_reducible rfl) ?_
    simp only [Act.put, List.setIfInBounds_toArray, List.set_cons_zero, List.set_cons_succ]
    refine held_take 20 (some 26) rfl rfl (by kernel_rfl) (by kernel_rfl) (by kernel_rfl) (fun _ _ _ h => h) rfl hHeld3 (v := ?_) (fun w' hS => by skip; go_simp; try with_reducible rfl) ?_
    simp only [Act.put, List.setIfInBounds_toArray, List.set_cons_zero, List.set_cons_succ]
    refine held_take 21 (some 5) rfl rfl (by kernel_rfl) (by kernel_rfl) (by kernel_rfl) (fun _ _ _ h => h) rfl hHeld3 (v := ?_) (fun w' hS => by skip; go_simp; try with_reducible rfl) ?_
    simp only [Act.put, List.setIfInBounds_toArray, List.set_cons_zero, List.set_cons_succ]
    refine wpAnyH_done (by kernel_rfl) ?_ _
    go_wp2_with fail
    go_ret
    refine ⟨⟨_, rfl, ?_⟩, hHeld3⟩
    have hk := rank_help HT.out.pr HT.out.good HT.out.cols hn7 hs128 hi HB.out HR1.out (by have h := HR2.out; rw [HPT.out.2, HPT.out.1] at h; exact h)
    unfold HelpQ
    rw [beq_iff_eq, ← hk]
    constructor
    · intro e; exact ⟨HB.out, by omega⟩
    · intro e; have := e.2; omega
  · rw [hb] at hbit
    have HB := Lib.hid hb
    clear hb
    go_quiet (fail)
    go_wp2_with fail
    go_ret
    refine ⟨⟨false, rfl, ⟨(fun h => by cases h), fun h => by have := h.1; rw [HB.out] at this; omega⟩⟩, New.drewN _ _⟩
end Go.Proofs.Yteoiaicpdmlecaa
