/- Which columns may be lost. -/
import Derived.Test.YtdebkeicdfljlaaRk
import Derived.Test.YtdebkeicdfljlaaSkip
namespace Go.Proofs.Ytdebkeicdfljlaa
open Go.RowKit Mat
set_option linter.unusedVariables false

/-- The columns in lost may be lost. -/
def MendC (p : Int) (rows : List (List Int)) (lost : Nat) : Prop := RkOf p rows (2 ^ (gr rows 0).length - 1 - lost) rows.length

theorem andNot_keep : ∀ n : Nat, n < 8 → ∀ s : Nat, s < 2 ^ n → bits BinOp.andNot IntKind.i64 ((2 ^ n - 1 : Nat) : Int) (s : Int) = ((2 ^ n - 1 - s : Nat) : Int) := by decide +kernel
theorem pow_lt {n : Nat} (h : n ≤ 7) : 2 ^ n ≤ 128 := two_pow_le (m := n) (n := 7) h

/-- It ends with the answer to a question. -/
def TellsB (w : World) (e : Ending) (w' : World) (Q : Prop) : Prop := ∃ b : Bool, e = .returned (.bool b) ∧ (b = true ↔ Q) ∧ New w w'

theorem wrap_pow : ∀ n : Nat, n < 8 → IntKind.i64.wrap ((2 : Int) ^ n) = ((2 ^ n : Nat) : Int) := by decide +kernel
theorem wrap_pred : ∀ n : Nat, n < 129 → 1 ≤ n → IntKind.i64.wrap ((n : Int) - 1) = ((n - 1 : Nat) : Int) := by decide +kernel

set_option maxRecDepth 100000 in
set_option maxHeartbeats 1000000 in
theorem mendable_any (q : Nat) [NeZero q] (n : Nat) (v : Value) (rows : List (List Int)) (lost : Nat) (w : World) (hr : IsR w v rows) (ht : TabOk q n rows) (hl : lost < 2 ^ n) :
    Calls Try.prog 72 #[.agg #[.int .i64 q, v], .int .i64 q, .int .i64 lost] w fun e w' => TellsB w e w' (MendC q rows lost) := by
  obtain ⟨ao, m, cap, rfl, HN, hn⟩ := hr.shape
  have h1 : New w (w.alloc (.cells #[.int .i64 q, .slice ao m cap] 27)) := New.alloc _ _
  have hb := Blk2.alloc w (.int .i64 q) (.slice ao m cap) 27
  have hc := ht.cols
  have hn7 := ht.n7
  have hp := pow_lt hn7
  have han := andNot_keep n (by omega) lost hl
  have hsz : 2 ^ n - 1 - lost < 128 := by omega
  have hw12 := wrap_pow n (by omega)
  have hp0 : 0 < 2 ^ n := Nat.two_pow_pos _
  have hw13 := wrap_pred (2 ^ n) (by omega) (by omega)
  obtain ⟨N, hNN⟩ : ∃ N, N = 2 ^ n := ⟨_, rfl⟩
  rw [← hNN] at hp hp0 han hsz hl hw12 hw13
  have HNN := Lib.hid hNN
  clear hNN
  have HR := Lib.hid hr
  have HT := Lib.hid ht
  clear hr ht
  obtain ⟨w1, hw1⟩ : ∃ w1 : World, w1 = w.alloc (.cells #[.int .i64 q, .slice ao m cap] 27) := ⟨_, rfl⟩
  rw [← hw1] at h1 hb
  obtain ⟨c0, c1, _, _⟩ := hb.cells
  go_enter Try.func72, Try.ntmps72
  go_wp2_with fail
  rw [← hw1]
  clear hw1
  refine wp_region_held_drew (S := fun w' => New w1 w') (by kernel_rfl) (New.drew _) (fun hHeld => ?_)
  refine held_take 0 (some 7) rfl rfl (by kernel_rfl) (by kernel_rfl) (by kernel_rfl) (fun _ _ _ h => h) rfl hHeld (v := ?_) (fun w' hS => by skip; go_simp; try with_reducible rfl) ?_
  simp only [Act.put, List.setIfInBounds_toArray, List.set_cons_zero, List.set_cons_succ]
  refine held_take 1 (some 8) rfl rfl (by kernel_rfl) (by kernel_rfl) (by kernel_rfl) (fun _ _ _ h => h) rfl hHeld (v := ?_) (fun w' hS => by skip; go_simp; try with_reducible rfl) ?_
  simp only [Act.put, List.setIfInBounds_toArray, List.set_cons_zero, List.set_cons_succ]
  refine held_take 2 (some 9) rfl rfl (by kernel_rfl) (by kernel_rfl) (by kernel_rfl) (fun _ _ _ h => h) rfl hHeld (v := .slice ao m cap) (fun w' hS => by obtain ⟨c0, c1, _, _⟩ := (hb.new hS).cells; go_simp; try with_reducible rfl) ?_
  simp only [Act.put, List.setIfInBounds_toArray, List.set_cons_zero, List.set_cons_succ]
  refine held_take 3 (some 10) rfl rfl (by kernel_rfl) (by kernel_rfl) (by kernel_rfl) (fun _ _ _ h => h) rfl hHeld (v := .agg #[.int .i64 q, .slice ao m cap]) (fun w' hS => by obtain ⟨c0, c1, _, _⟩ := (hb.new hS).cells; go_simp; try with_reducible rfl) ?_
  simp only [Act.put, List.setIfInBounds_toArray, List.set_cons_zero, List.set_cons_succ]
  refine held_take 7 (some 14) rfl rfl (by kernel_rfl) (by kernel_rfl) (by kernel_rfl) (fun _ _ _ h => h) rfl hHeld (v := ?_) (fun w' hS => by skip; go_simp; try with_reducible rfl) ?_
  simp only [Act.put, List.setIfInBounds_toArray, List.set_cons_zero, List.set_cons_succ]
  refine held_take 10 (some 17) rfl rfl (by kernel_rfl) (by kernel_rfl) (by kernel_rfl) (fun _ _ _ h => h) rfl hHeld (v := ?_) (fun w' hS => by skip; go_simp; try with_reducible rfl) ?_
  simp only [Act.put, List.setIfInBounds_toArray, List.set_cons_zero, List.set_cons_succ]
  refine held_take 11 (some 18) rfl rfl (by kernel_rfl) (by kernel_rfl) (by kernel_rfl) (fun _ _ _ h => h) rfl hHeld (v := .slice ao m cap) (fun w' hS => by obtain ⟨c0, c1, _, _⟩ := (hb.new hS).cells; go_simp; try with_reducible rfl) ?_
  simp only [Act.put, List.setIfInBounds_toArray, List.set_cons_zero, List.set_cons_succ]
  refine held_take 12 (some 19) rfl rfl (by kernel_rfl) (by kernel_rfl) (by kernel_rfl) (fun _ _ _ h => h) rfl hHeld (v := .int .i64 m) (fun w' hS => by skip; go_simp; try with_reducible rfl) ?_
  simp only [Act.put, List.setIfInBounds_toArray, List.set_cons_zero, List.set_cons_succ]
  refine held_only 4 (by kernel_rfl) rfl rfl (fun K hK => ?_)
  go_simp
  refine (columnsOf_any _ _ rows _ (HR.out.new (h1.trans (New.drew _))) HT.out.r1).mono ?_
  rintro e w2 ⟨rfl, hn2⟩
  rw [HT.out.cols]
  refine hK.out _ _ (hHeld.trans hn2) (fun hHeld2 => ?_)
  clear hK K hn2 hHeld
  refine held_take 5 (some 12) rfl rfl (by kernel_rfl) (by kernel_rfl) (by kernel_rfl) (fun _ _ _ h => h) rfl hHeld2 (v := .int .i64 (N : Nat)) (fun w' hS => by skip; go_simp; skip) ?_
  simp only [Act.put, List.setIfInBounds_toArray, List.set_cons_zero, List.set_cons_succ]
  refine held_take 6 (some 13) rfl rfl (by kernel_rfl) (by kernel_rfl) (by kernel_rfl) (fun _ _ _ h => h) rfl hHeld2 (v := .int .i64 ((N - 1 : Nat) : Int)) (fun w' hS => by skip; go_simp; skip) ?_
  simp only [Act.put, List.setIfInBounds_toArray, List.set_cons_zero, List.set_cons_succ]
  refine held_take 8 (some 15) rfl rfl (by kernel_rfl) (by kernel_rfl) (by kernel_rfl) (fun _ _ _ h => h) rfl hHeld2 (v := .int .i64 ((N - 1 - lost : Nat) : Int)) (fun w' hS => by skip; go_simp; skip) ?_
  simp only [Act.put, List.setIfInBounds_toArray, List.set_cons_zero, List.set_cons_succ]
  refine held_only 9 (by kernel_rfl) rfl rfl (fun K hK => ?_)
  go_simp
  refine (rank_any q n _ rows (N - 1 - lost) _ hsz (HR.out.new (h1.trans hHeld2)) HT.out).mono ?_
  rintro e w3 ⟨r, rfl, hrk, hr7, hn3⟩
  refine hK.out _ _ (hHeld2.trans hn3) (fun hHeld3 => ?_)
  have HK := Lib.hid hrk
  clear hK K hn3 hHeld2 hrk
  refine held_take 13 (some 20) rfl rfl (by kernel_rfl) (by kernel_rfl) (by kernel_rfl) (fun _ _ _ h => h) rfl hHeld3 (v := ?_) (fun w' hS => by skip; go_simp; try with_reducible rfl) ?_
  simp only [Act.put, List.setIfInBounds_toArray, List.set_cons_zero, List.set_cons_succ]
  refine held_take 14 (some 6) rfl rfl (by kernel_rfl) (by kernel_rfl) (by kernel_rfl) (fun _ _ _ h => h) rfl hHeld3 (v := ?_) (fun w' hS => by skip; go_simp; try with_reducible rfl) ?_
  simp only [Act.put, List.setIfInBounds_toArray, List.set_cons_zero, List.set_cons_succ]
  refine wpAnyH_done (by kernel_rfl) ?_ _
  go_wp2_with fail
  go_ret
  refine ⟨_, rfl, ?_, h1.trans hHeld3⟩
  unfold MendC
  rw [hc, ← HNN.out, ← HN.out, beq_iff_eq]
  constructor
  · intro e
    have e : r = m := by omega
    rw [← e]; exact HK.out
  · intro h
    rw [HK.out.unique h]
end Go.Proofs.Ytdebkeicdfljlaa
