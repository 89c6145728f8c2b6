/- Which columns may be lost. Which columns may be lost, by the reference; IsMendable of both. IsMendable of both. -/
import Derived.Test.YtmehgchmnnbkfaaKnow
import Derived.Test.YtmehgchmnnbkfaaBase
namespace Go.Proofs.Ytmehgchmnnbkfaa
open Go.RowKit Mat
set_option linter.unusedVariables false

/-- The columns in lost may be lost. -/
def MendC (p : Int) (rows : List (List Int)) (lost : Nat) : Prop := RkOf p rows (2 ^ (gr rows 0).length - 1 - lost) rows.length

theorem andNot_keep : ∀ n : Nat, n < 8 → ∀ s : Nat, s < 2 ^ n → bits BinOp.andNot IntKind.i64 ((2 ^ n - 1 : Nat) : Int) (s : Int) = ((2 ^ n - 1 - s : Nat) : Int) := by decide +kernel


theorem wrap_pred : ∀ n : Nat, n < 129 → 1 ≤ n → IntKind.i64.wrap ((n : Int) - 1) = ((n - 1 : Nat) : Int) := by decide +kernel

set_option maxRecDepth 100000 in
set_option maxHeartbeats 1000000 in
theorem mendable_any (q : Nat) [NeZero q] (n : Nat) (v : Value) (rows : List (List Int)) (lost : Nat) (w : World) (hr : IsR w v rows) (ht : TabOk q n rows) (hl : lost < 2 ^ n) :
    Calls Try.prog 82 #[.agg #[.int .i64 q, v], .int .i64 q, .int .i64 lost] w fun e w' => TellsB w e w' (MendC q rows lost) := by
  obtain ⟨ao, m, cap, rfl, HN, hn⟩ := hr.shape
  have h1 : New w (w.alloc (.cells #[.int .i64 q, .slice ao m cap] 25)) := New.alloc _ _
  have hb := Blk2.alloc w (.int .i64 q) (.slice ao m cap) 25
  have hc := ht.cols
  have hn7 := ht.n7
  have hp := pow_lt hn7
  have han := andNot_keep n (by omega) lost hl
  have hsz : 2 ^ n - 1 - lost < 128 := by omega
  have hw12 := wrap_pow n (by omega)
  have hp0 : 0 < 2 ^ n := Nat.two_pow_pos _
  have hw13 := wrap_pred (2 ^ n) (by omega) (by omega)
  obtain ⟨N, hNN⟩ : ∃ N, N = 2 ^ n := ⟨_, rfl⟩
  rw [← hNN] at hp hp0 han hsz hl hw12 hw13
  have HNN := Lib.hid hNN
  clear hNN
  have HR := Lib.hid hr
  have HT := Lib.hid ht
  clear hr ht
  obtain ⟨w1, hw1⟩ : ∃ w1 : World, w1 = w.alloc (.cells #[.int .i64 q, .slice ao m cap] 25) := ⟨_, rfl⟩
  rw [← hw1] at h1 hb
  obtain ⟨c0, c1, _, _⟩ := hb.cells
  go_enter Try.func82, Try.ntmps82
  go_wp2_with fail
  rw [← hw1]
  clear hw1
  refine wp_region_held_drew (S := fun w' => New w1 w') (by kernel_rfl) (New.drew _) (fun hHeld => ?_)
  refine held_take 0 (some 7) rfl rfl (by kernel_rfl) (by kernel_rfl) (by kernel_rfl) (fun _ _ _ h => h) rfl hHeld (v := ?_) (fun w' hS => by skip; go_simp; try with_reducible rfl) ?_
  simp only [Act.put, List.setIfInBounds_toArray, List.set_cons_zero, List.set_cons_succ]
  refine held_take 1 (some 8) rfl rfl (by kernel_rfl) (by kernel_rfl) (by kernel_rfl) (fun _ _ _ h => h) rfl hHeld (v := ?_) (fun w' hS => by skip; go_simp; try with_reducible rfl) ?_
  simp only [Act.put, List.setIfInBounds_toArray, List.set_cons_zero, List.set_cons_succ]
  refine held_take 2 (some 9) rfl rfl (by kernel_rfl) (by kernel_rfl) (by kernel_rfl) (fun _ _ _ h => h) rfl hHeld (v := .slice ao m cap) (fun w' hS => by obtain ⟨c0, c1, _, _⟩ := (hb.new hS).cells; go_simp; try with_reducible rfl) ?_
  simp only [Act.put, List.setIfInBounds_toArray, List.set_cons_zero, List.set_cons_succ]
  refine held_take 3 (some 10) rfl rfl (by kernel_rfl) (by kernel_rfl) (by kernel_rfl) (fun _ _ _ h => h) rfl hHeld (v := .agg #[.int .i64 q, .slice ao m cap]) (fun w' hS => by obtain ⟨c0, c1, _, _⟩ := (hb.new hS).cells; go_simp; try with_reducible rfl) ?_
  simp only [Act.put, List.setIfInBounds_toArray, List.set_cons_zero, List.set_cons_succ]
  refine held_take 7 (some 14) rfl rfl (by kernel_rfl) (by kernel_rfl) (by kernel_rfl) (fun _ _ _ h => h) rfl hHeld (v := ?_) (fun w' hS => by skip; go_simp; try with_reducible rfl) ?_
  simp only [Act.put, List.setIfInBounds_toArray, List.set_cons_zero, List.set_cons_succ]
  refine held_take 10 (some 17) rfl rfl (by kernel_rfl) (by kernel_rfl) (by kernel_rfl) (fun _ _ _ h => h) rfl hHeld (v := ?_) (fun w' hS => by skip; go_simp; try with_reducible rfl) ?_
  simp only [Act.put, List.setIfInBounds_toArray, List.set_cons_zero, List.set_cons_succ]
  refine held_take 11 (some 18) rfl rfl (by kernel_rfl) (by kernel_rfl) (by kernel_rfl) (fun _ _ _ h => h) rfl hHeld (v := .slice ao m cap) (fun w' hS => by obtain ⟨c0, c1, _, _⟩ := (hb.new hS).cells; go_simp; try with_reducible rfl) ?_
  simp only [Act.put, List.setIfInBounds_toArray, List.set_cons_zero, List.set_cons_succ]
  refine held_take 12 (some 19) rfl rfl (by kernel_rfl) (by kernel_rfl) (by kernel_rfl) (fun _ _ _ h => h) rfl hHeld (v := .int .i64 m) (fun w' hS => by skip; go_simp; try with_reducible rfl) ?_
  simp only [Act.put, List.setIfInBounds_toArray, List.set_cons_zero, List.set_cons_succ]
  refine held_only 4 (by kernel_rfl) rfl rfl (fun K hK => ?_)
  go_simp
  refine (columnsOf_any _ _ rows _ (HR.out.new (h1.trans (New.drew _))) HT.out.r1).mono ?_
  rintro e w2 ⟨rfl, hn2⟩
  rw [HT.out.cols]
  refine hK.out _ _ (hHeld.trans hn2) (fun hHeld2 => ?_)
  clear hK K hn2 hHeld
  refine held_take 5 (some 12) rfl rfl (by kernel_rfl) (by kernel_rfl) (by kernel_rfl) (fun _ _ _ h => h) rfl hHeld2 (v := .int .i64 (N : Nat)) (fun w' hS => by skip; go_simp; skip) ?_
  simp only [Act.put, List.setIfInBounds_toArray, List.set_cons_zero, List.set_cons_succ]
  refine held_take 6 (some 13) rfl rfl (by kernel_rfl) (by kernel_rfl) (by kernel_rfl) (fun _ _ _ h => h) rfl hHeld2 (v := .int .i64 ((N - 1 : Nat) : Int)) (fun w' hS => by skip; go_simp; skip) ?_
  simp only [Act.put, List.setIfInBounds_toArray, List.set_cons_zero, List.set_cons_succ]
  refine held_take 8 (some 15) rfl rfl (by kernel_rfl) (by kernel_rfl) (by kernel_rfl) (fun _ _ _ h => h) rfl hHeld2 (v := .int .i64 ((N - 1 - lost : Nat) : Int)) (fun w' hS => by skip; go_simp; skip) ?_
  simp only [Act.put, List.setIfInBounds_toArray, List.set_cons_zero, List.set_cons_succ]
  refine held_only 9 (by kernel_rfl) rfl rfl (fun K hK => ?_)
  go_simp
  refine (rank_any q n _ rows (N - 1 - lost) _ hsz (HR.out.new (h1.trans hHeld2)) HT.out).mono ?_
  rintro e w3 ⟨r, rfl, hrk, hr7, hn3⟩
  refine hK.out _ _ (hHeld2.trans hn3) (fun hHeld3 => ?_)
  have HK := Lib.hid hrk
  clear hK K hn3 hHeld2 hrk
  refine held_take 13 (some 20) rfl rfl (by kernel_rfl) (by kernel_rfl) (by kernel_rfl) (fun _ _ _ h => h) rfl hHeld3 (v := ?_) (fun w' hS => by skip; go_simp; try with_reducible rfl) ?_
  simp only [Act.put, List.setIfInBounds_toArray, List.set_cons_zero, List.set_cons_succ]
  refine held_take 14 (some 6) rfl rfl (by kernel_rfl) (by kernel_rfl) (by kernel_rfl) (fun _ _ _ h => h) rfl hHeld3 (v := ?_) (fun w' hS => by skip; go_simp; try with_reducible rfl) ?_
  simp only [Act.put, List.setIfInBounds_toArray, List.set_cons_zero, List.set_cons_succ]
  refine wpAnyH_done (by kernel_rfl) ?_ _
  go_wp2_with fail
  go_ret
  refine ⟨_, rfl, ?_, h1.trans hHeld3⟩
  unfold MendC
  rw [hc, ← HNN.out, ← HN.out, beq_iff_eq]
  constructor
  · intro e
    have e : r = m := by omega
    rw [← e]; exact HK.out
  · intro h
    rw [HK.out.unique h]
end Go.Proofs.Ytmehgchmnnbkfaa

namespace Go.Proofs.Ytmehgchmnnbkfaa
open Go.RowKit Mat
set_option linter.unusedVariables false

set_option maxRecDepth 100000 in
set_option maxHeartbeats 1000000 in
theorem specMendable_any (q : Nat) [NeZero q] (n : Nat) (v : Value) (rows : List (List Int)) (lost : Nat) (w : World) (hr : IsR w v rows) (ht : TabOk q n rows) (hl : lost < 2 ^ n) :
    Calls Try.prog 84 #[.agg #[.int .i64 q, v], .int .i64 lost] w fun e w' => TellsB w e w' (MendC q rows lost) := by
  obtain ⟨ao, m, cap, rfl, HN, hn⟩ := hr.shape
  have hc := ht.cols
  have hn7 := ht.n7
  have h1r : 1 ≤ m := by rw [HN.out]; exact ht.r1
  have hm6 : m ≤ 6 := by rw [HN.out]; exact ht.r6
  obtain ⟨w1, hw1⟩ : ∃ w1 : World, w1 = w.alloc (.cells #[.int .i64 q, .slice ao m cap] 25) := ⟨_, rfl⟩
  have hnal : New w (w.alloc (.cells #[.int .i64 q, .slice ao m cap] 25)) := New.alloc _ _
  obtain ⟨b0, o0, u0, rfl, ck0, hu0⟩ := (hr.new hnal).at (i := 0) (by omega)
  rw [Nat.add_zero] at ck0
  obtain ⟨a0, mc, cc0, rfl, HM, hm⟩ := hu0.shape
  have hmc : n = mc := by rw [HM.out, hc]
  subst hmc
  have hp := pow_lt hn7
  have hp0 : 0 < 2 ^ n := Nat.two_pow_pos _
  obtain ⟨N, hNN⟩ : ∃ N, N = 2 ^ n := ⟨_, rfl⟩
  rw [← hNN] at hp hp0 hl
  obtain ⟨keep, hke⟩ : ∃ k, k = N - 1 - lost := ⟨_, rfl⟩
  have hkeep : (N : Int) - 1 - (lost : Int) = (keep : Int) := by omega
  have hsz : keep < 128 := by omega
  have hb := Blk2.alloc w (.int .i64 q) (.slice (some ⟨b0, o0, none⟩) m cap) 25
  have HR := Lib.hid hr
  have HT := Lib.hid ht
  have HNN := Lib.hid hNN
  have HKE := Lib.hid hke
  have HMC : Hid (MendC q rows lost ↔ RkOf q rows keep m) := by show MendC q rows lost ↔ _; unfold MendC; rw [hc, ← hNN, ← HN.out, ← hke]
  clear hr ht hu0 hNN hke
  go_enter Try.func84, Try.ntmps84
  go_wp2_with (go_at_call 83; refine (power_any n _ (by omega)).mono ?_; rintro e w' ⟨rfl, rfl⟩; rw [← HNN.out])
  rw [← hw1] at hb hnal ck0
  rw [← hw1]
  clear hw1
  obtain ⟨c0, c1, _, _⟩ := hb.cells
  by_cases hk0 : keep = 0
  · have HK0 := Lib.hid hk0
    clear HKE
    subst hk0
    go_quiet (fail)
    go_wp2_with fail
    go_ret
    refine ⟨false, rfl, ?_, hnal.trans (New.drewN _ _)⟩
    rw [HMC.out]
    constructor
    · intro h; cases h
    · intro h; have := h.none; omega
  · have hk1 : 0 < keep := by omega
    have hd : decide ((keep : Int) > 0) = true := by simp; omega
    refine wp_region_held_drew (S := fun w' => New w1 w') (by kernel_rfl) (New.drew _) (fun hHeld => ?_)
    refine held_take 0 (some 15) rfl rfl (by kernel_rfl) (by kernel_rfl) (by kernel_rfl) (fun _ _ _ h => h) rfl hHeld (v := ?_) (fun w' hS => by skip; go_simp; try with_reducible rfl) ?_
    simp only [Act.put, List.setIfInBounds_toArray, List.set_cons_zero, List.set_cons_succ]
    refine held_take 1 (some 16) rfl rfl (by kernel_rfl) (by kernel_rfl) (by kernel_rfl) (fun _ _ _ h => h) rfl hHeld (v := .bool true) (fun w' hS => by skip; go_simp; try omega) ?_
    simp only [Act.put, List.setIfInBounds_toArray, List.set_cons_zero, List.set_cons_succ]
    refine held_take 2 (some 17) rfl rfl (by kernel_rfl) (by kernel_rfl) (by kernel_rfl) (fun _ _ _ h => h) rfl hHeld (v := ?_) (fun w' hS => by skip; go_simp; try with_reducible rfl) ?_
    simp only [Act.put, List.setIfInBounds_toArray, List.set_cons_zero, List.set_cons_succ]
    refine held_take 3 (some 18) rfl rfl (by kernel_rfl) (by kernel_rfl) (by kernel_rfl) (fun _ _ _ h => h) rfl hHeld (v := ?_) (fun w' hS => by skip; go_simp; try with_reducible rfl) ?_
    simp only [Act.put, List.setIfInBounds_toArray, List.set_cons_zero, List.set_cons_succ]
    refine held_take 4 (some 19) rfl rfl (by kernel_rfl) (by kernel_rfl) (by kernel_rfl) (fun _ _ _ h => h) rfl hHeld (v := .int .i64 q) (fun w' hS => by obtain ⟨c0, c1, _, _⟩ := (hb.new hS).cells; go_simp; try with_reducible rfl) ?_
    simp only [Act.put, List.setIfInBounds_toArray, List.set_cons_zero, List.set_cons_succ]
    refine held_take 5 (some 20) rfl rfl (by kernel_rfl) (by kernel_rfl) (by kernel_rfl) (fun _ _ _ h => h) rfl hHeld (v := ?_) (fun w' hS => by skip; go_simp; try with_reducible rfl) ?_
    simp only [Act.put, List.setIfInBounds_toArray, List.set_cons_zero, List.set_cons_succ]
    refine held_take 6 (some 21) rfl rfl (by kernel_rfl) (by kernel_rfl) (by kernel_rfl) (fun _ _ _ h => h) rfl hHeld (v := .slice (some ⟨b0, o0, none⟩) m cap) (fun w' hS => by obtain ⟨c0, c1, _, _⟩ := (hb.new hS).cells; go_simp; try with_reducible rfl) ?_
    simp only [Act.put, List.setIfInBounds_toArray, List.set_cons_zero, List.set_cons_succ]
    refine held_take 7 (some 22) rfl rfl (by kernel_rfl) (by kernel_rfl) (by kernel_rfl) (fun _ _ _ h => h) rfl hHeld (v := ?_) (fun w' hS => by skip; go_simp; try with_reducible rfl) ?_
    simp only [Act.put, List.setIfInBounds_toArray, List.set_cons_zero, List.set_cons_succ]
    refine held_take 11 (some 26) rfl rfl (by kernel_rfl) (by kernel_rfl) (by kernel_rfl) (fun _ _ _ h => h) rfl hHeld (v := ?_) (fun w' hS => by skip; go_simp; try with_reducible rfl) ?_
    simp only [Act.put, List.setIfInBounds_toArray, List.set_cons_zero, List.set_cons_succ]
    refine held_take 12 (some 27) rfl rfl (by kernel_rfl) (by kernel_rfl) (by kernel_rfl) (fun _ _ _ h => h) rfl hHeld (v := .slice (some ⟨b0, o0, none⟩) m cap) (fun w' hS => by obtain ⟨c0, c1, _, _⟩ := (hb.new hS).cells; go_simp; try with_reducible rfl) ?_
    simp only [Act.put, List.setIfInBounds_toArray, List.set_cons_zero, List.set_cons_succ]
    refine held_take 13 (some 28) rfl rfl (by kernel_rfl) (by kernel_rfl) (by kernel_rfl) (fun _ _ _ h => h) rfl hHeld (v := .int .i64 m) (fun w' hS => by skip; go_simp; try with_reducible rfl) ?_
    simp only [Act.put, List.setIfInBounds_toArray, List.set_cons_zero, List.set_cons_succ]
    refine held_only 8 (by kernel_rfl) rfl rfl (fun K hK => ?_)
    go_simp
    refine (columns_any keep hsz _ rows _ (HR.out.new (hnal.trans (New.drew _))) (by have := HT.out.r6; omega) (fun i hi => by rw [(HT.out.good i hi).1]; exact hn7)).mono ?_
    rintro e w2 ⟨u2, vs2, rfl, ho2, hf2, hn2⟩
    have hwt : wtN keep n ≤ 7 := by have := wtN_le keep n; omega
    have hg := selRows_good keep HT.out.good
    have HI := Lib.hid (show IsR w2 u2 (rows.map (sel keep)) from ho2.isR (by rw [List.length_map]; have := HT.out.r6; unfold Mid; omega) (fun i hi => by have := (hg i hi).1; unfold Mid; omega))
    have HG := Lib.hid hg
    refine hK.out _ _ (hHeld.trans hn2) (fun hHeld2 => ?_)
    clear hK K hn2 hHeld ho2 hf2 hg
    refine held_only 9 (by kernel_rfl) rfl rfl (fun K hK => ?_)
    go_simp
    refine (reduce_any q HT.out.pr _ hwt _ _ _ HI.out HG.out (by rw [List.length_map]; have := HT.out.r6; have := HT.out.r1; omega)).mono ?_
    rintro e w3 ⟨u3, vs3, out, rfl, ho3, hf3, hred, hn3⟩
    have hrk : RkOf q rows keep out.length := ⟨q, _, rfl, HT.out.pr, out, by rw [HT.out.cols]; exact hred, rfl⟩
    have hle := hrk.le
    rw [HT.out.cols] at hle
    obtain ⟨a3, l, c3, rfl, HL, hl3, _⟩ := ho3.outer.opened (by rw [ho3.len]; unfold Mid; omega)
    have el : out.length = l := by rw [HL.out, ho3.len]
    rw [el] at hrk hle
    refine hK.out _ _ (hHeld2.trans hn3) (fun hHeld3 => ?_)
    have HK := Lib.hid hrk
    clear hK K hn3 hHeld2 hrk ho3 hf3 hred HL el
    refine held_take 10 (some 25) rfl rfl (by kernel_rfl) (by kernel_rfl) (by kernel_rfl) (fun _ _ _ h => h) rfl hHeld3 (v := .int .i64 l) (fun w' hS => by skip; go_simp; try with_reducible rfl) ?_
    simp only [Act.put, List.setIfInBounds_toArray, List.set_cons_zero, List.set_cons_succ]
    refine held_take 14 (some 29) rfl rfl (by kernel_rfl) (by kernel_rfl) (by kernel_rfl) (fun _ _ _ h => h) rfl hHeld3 (v := ?_) (fun w' hS => by skip; go_simp; try with_reducible rfl) ?_
    simp only [Act.put, List.setIfInBounds_toArray, List.set_cons_zero, List.set_cons_succ]
    refine held_take 15 (some 30) rfl rfl (by kernel_rfl) (by kernel_rfl) (by kernel_rfl) (fun _ _ _ h => h) rfl hHeld3 (v := ?_) (fun w' hS => by skip; go_simp; try with_reducible rfl) ?_
    simp only [Act.put, List.setIfInBounds_toArray, List.set_cons_zero, List.set_cons_succ]
    refine held_take 16 (some 4) rfl rfl (by kernel_rfl) (by kernel_rfl) (by kernel_rfl) (fun _ _ _ h => h) rfl hHeld3 (v := ?_) (fun w' hS => by skip; go_simp; try with_reducible rfl) ?_
    simp only [Act.put, List.setIfInBounds_toArray, List.set_cons_zero, List.set_cons_succ]
    refine wpAnyH_done (by kernel_rfl) ?_ _
    go_wp2_with fail
    go_ret
    refine ⟨_, rfl, ?_, hnal.trans hHeld3⟩
    rw [HMC.out, beq_iff_eq]
    constructor
    · intro e
      have e : l = m := by omega
      rw [← e]; exact HK.out
    · intro h
      rw [HK.out.unique h]
end Go.Proofs.Ytmehgchmnnbkfaa

namespace Go.Proofs.Ytmehgchmnnbkfaa
open Go.RowKit Mat
set_option linter.unusedVariables false

def IsMendC (p : Int) (rows : List (List Int)) (a : Int) : Prop := ValidC p rows ∧ inB a 0 (((2 ^ (gr rows 0).length : Nat) : Int) - 1) = true ∧ MendC p rows a.toNat

end Go.Proofs.Ytmehgchmnnbkfaa
