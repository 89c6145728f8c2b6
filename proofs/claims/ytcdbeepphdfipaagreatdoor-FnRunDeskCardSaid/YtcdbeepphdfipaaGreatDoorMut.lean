/- Texts that are drawn: one of a list of texts, a text that has been turned at one place. -/
import Derived.Test.YtcdbeepphdfipaaGreatDoorGens
import Derived.Test.YtcdbeepphdfipaaGreatDoorPrsS
import Derived.Test.YtcdbeepphdfipaaGreatDoorSeqG
import Derived.Test.YtcdbeepphdfipaaGreatDoorBase
import Derived.Lib.SmallJoins
namespace Go.Proofs.YtcdbeepphdfipaaGreatDoor
open Go.RowKit
set_option linter.unusedVariables false

/-- It ends with a text of which Q holds. -/
def PicksS (g N : Nat) (w : World) (e : Ending) (w' : World) (Q : List UInt8 → Prop) : Prop := ∃ l : List UInt8, e = .returned (.string (bs l)) ∧ Q l ∧ Rd w' g N ∧ Chg (· = g) w w'

theorem ret_sb {a b : ByteArray} (h : a = b) : Ending.returned (.string a) = .returned (.string b) := by rw [h]

set_option maxHeartbeats 1000000 in
theorem of_any (g N : Nat) (v : Value) (ls : List (List UInt8)) (w : World) (hr : Rd w g N) (hN : N ≤ 1000000) (hx : Own w 9 v (strV ls)) (h0 : 0 < ls.length) (hl : ls.length ≤ 1000) (hb : ∀ b, v.ownBlock = some b → b ≠ g) :
    Calls Tryz.prog 53 #[.pointer (some ⟨g, 0, none⟩), v] w fun e w' => PicksS g (N + 1) w e w' (fun l => l ∈ ls) := by
  have hsl : (strV ls).length = ls.length := by rw [strV, List.length_map]
  obtain ⟨b, cap, rfl, hcap, hmx⟩ := hx.shape (by intro h; rw [h] at hsl; simp at hsl; omega)
  rw [hsl] at hcap hx hb ⊢
  obtain ⟨n, hn⟩ : ∃ n, n = ls.length := ⟨_, rfl⟩
  rw [← hn] at hx h0 hl hb ⊢
  have HX := Lib.hid hx
  have HB := Lib.hid hb
  have HR := Lib.hid hr
  have HN := Lib.hid hn
  have HSL := Lib.hid hsl
  clear hx hb hr hn hsl hcap hmx
  go_enter Tryz.func53, Tryz.ntmps53
  go_wp2_with fail
  refine (pick_any g N n _ HR.out hN (by omega)).mono ?_
  rintro e w1 ⟨x, rfl, hp, hr1, hc1⟩
  have hp0 := hp.1
  have hpn := hp.2.1 (by omega)
  obtain ⟨i, rfl⟩ : ∃ i : Nat, x = i := ⟨x.toNat, by omega⟩
  have hin : i < n := by omega
  have hil : i < ls.length := by rw [← HN.out]; exact hin
  obtain ⟨cx, _⟩ := (HX.out.chg hc1 (fun g' hg' e => HB.out g' hg' e)).cell (i := i) (by rw [HSL.out]; exact hil)
  rw [gv_strV hil] at cx
  obtain ⟨z, hz⟩ : ∃ z, z = bs ls[i] := ⟨_, rfl⟩
  rw [← hz] at cx
  have HZ := Lib.hid hz
  have HE := Lib.hid (And.intro hr1 hc1)
  have HIL := Lib.hid hil
  clear hp hr1 hc1 hz
  go_wp2_with fail
  go_ret
  exact ⟨_, ret_sb HZ.out, List.getElem_mem HIL.out, HE.out.1, HE.out.2⟩

/-- One of a list that has just been laid. -/
theorem of_lit (g N : Nat) (Q : List UInt8 → Prop) (ls : List (List UInt8)) (w : World) (cs : Array Value) (n : Nat) (hcs : cs = (strV ls).toArray) (hn : n = ls.length) (hr : Rd w g N) (hN : N ≤ 1000000) (h0 : 0 < ls.length) (hl : ls.length ≤ 1000) (hQ : ∀ l ∈ ls, Q l) :
    Calls Tryz.prog 53 #[.pointer (some ⟨g, 0, none⟩), .slice (some ⟨w.heap.size, 0, none⟩) n n] (w.alloc (.cells cs 9)) fun e w' => PicksS g (N + 1) w e w' Q := by
  subst hcs hn
  have hlt := hr.lt
  have hsl : (strV ls).length = ls.length := by rw [strV, List.length_map]
  have ho := Own.lit w 9 (strV ls) (by rw [hsl]; exact hl)
  rw [hsl] at ho
  refine (of_any g N _ ls _ (hr.new (New.alloc _ _)) hN ho h0 hl (fun b hb => by simp [Value.ownBlock] at hb; omega)).mono ?_
  rintro e w' ⟨x, h1, h2, h3, h4⟩
  exact ⟨x, h1, hQ x h2, h3, Chg.trans (New.alloc _ _) h4 (fun _ _ x => x.elim) (fun _ _ x => x)⟩

theorem len_sum {L A : List UInt8} {i : Nat} (hi : i < L.length) (hA : A.length ≤ 2) : (L.take i ++ A ++ L.drop (i + 1)).length ≤ L.length + 2 := by
  rw [List.length_append, List.length_append, List.length_take, List.length_drop]; omega

set_option maxRecDepth 100000 in
set_option maxHeartbeats 2000000 in
theorem mutate_any (g N : Nat) (L : List UInt8) (w : World) (hr : Rd w g N) (hN : N ≤ 900000) (hL : L.length ≤ 1000) :
    Calls Tryz.prog 46 #[.pointer (some ⟨g, 0, none⟩), .string (bs L)] w fun e w' => PicksS g (N + 3) w e w' (fun l => l.length ≤ L.length + 2) := by
  obtain ⟨S, hS⟩ : ∃ S, S = bs L := ⟨_, rfl⟩
  have hn : S.size = L.length := by rw [hS, bs_size]
  have hb : S.size ≤ 1000 := by omega
  rw [← hS]
  have HS := Lib.hid hS
  have HN := Lib.hid hn
  have HR := Lib.hid hr
  clear hr hS hn hL
  go_enter Tryz.func46, Tryz.ntmps46
  go_wp2_with fail
  refine (pick_any g N _ _ HR.out (by omega) (by omega)).mono ?_
  rintro e w1 ⟨x, rfl, hp, hr1, hc1⟩
  have hp0 := hp.1
  have hpn := hp.2.1 (by omega)
  obtain ⟨i, rfl⟩ : ∃ i : Nat, x = i := ⟨x.toNat, by omega⟩
  have hi : i ≤ S.size := by omega
  have H1 := Lib.hid (And.intro hr1 hc1)
  clear hp hr1 hc1 hp0 hpn
  go_wp2_with fail
  refine (pick_any g (N + 1) 5 _ H1.out.1 (by omega) (by omega)).mono ?_
  rintro e w2 ⟨x, rfl, hp, hr2, hc2⟩
  have hp0 := hp.1
  have hp5 := hp.2.1 (by omega)
  have H2 := Lib.hid (And.intro hr2 (Chg.trans H1.out.2 hc2 (U := fun k => k = g) (fun _ _ x => x) (fun _ _ x => x)))
  clear hp hr2 hc2
  have s1 := fun w => run_sto L i (by rw [← HN.out]; exact hi) w
  rw [← HS.out] at s1
  have hx : x = 0 ∨ x = 1 ∨ x = 2 ∨ x = 3 ∨ x = 4 := by omega
  clear hp0 hp5
  rcases hx with rfl | rfl | rfl | rfl | rfl
  · by_cases hin : i < S.size
    · go_wp2_with fail
      clear s1
      have s1 := fun w => run_sto L i (by rw [← HN.out]; exact hi) w
      have s2 : ∀ w, (Instr.slice 9 (.string (bs L)) (some (.int .i64 ((i : Int) + 1))) none none).run Tryz.prog w = .ok (.string (bs (L.drop (i + 1)))) w := fun w => by
        have h := run_slf L (i + 1) (by rw [← HN.out]; exact hin) w
        rw [Int.natCast_add] at h
        exact h
      rw [← HS.out] at s1 s2
      obtain ⟨T1, hT1⟩ : ∃ T, T = bs (L.take i) := ⟨_, rfl⟩
      obtain ⟨T2, hT2⟩ : ∃ T, T = bs (L.drop (i + 1)) := ⟨_, rfl⟩
      rw [← hT1] at s1
      rw [← hT2] at s2
      have hz1 : T1.size ≤ 1000 := by rw [hT1, bs_size, List.length_take, ← HN.out]; omega
      have hz2 : T2.size ≤ 1000 := by rw [hT2, bs_size, List.length_drop, ← HN.out]; omega
      have HT := Lib.hid (And.intro hT1 hT2)
      have hwi : IntKind.i64.wrap ((i : Int) + 1) = (i : Int) + 1 := IntWalk.i64_in _ (by omega)
      clear hT1 hT2
      refine wp_region_held_drew (S := fun w' => Chg (· = g) w2 w') (by kernel_rfl) ((New.drew w2).mono (fun _ _ x => x.elim)) (fun hH => ?_)
      refine held_take 0 (some 20) rfl rfl (by kernel_rfl) (by kernel_rfl) (by kernel_rfl) (fun _ _ _ h => h) rfl hH (v := .string S) (fun w' hS => by skip; go_simp; try with_reducible rfl) ?_
      simp only [Act.put, List.setIfInBounds_toArray, List.set_cons_zero, List.set_cons_succ]
      refine held_take 1 (some 21) rfl rfl (by kernel_rfl) (by kernel_rfl) (by kernel_rfl) (fun _ _ _ h => h) rfl hH (v := ?_) (fun w' hS => by skip; go_simp; try with_reducible rfl) ?_
      simp only [Act.put, List.setIfInBounds_toArray, List.set_cons_zero, List.set_cons_succ]
      refine held_take 2 (some 22) rfl rfl (by kernel_rfl) (by kernel_rfl) (by kernel_rfl) (fun _ _ _ h => h) rfl hH (v := .string T1) (fun w' hS => by skip; go_simp; try with_reducible rfl) ?_
      simp only [Act.put, List.setIfInBounds_toArray, List.set_cons_zero, List.set_cons_succ]
      refine held_take 3 (some 23) rfl rfl (by kernel_rfl) (by kernel_rfl) (by kernel_rfl) (fun _ _ _ h => h) rfl hH (v := ?_) (fun w' hS => by skip; go_simp; try with_reducible rfl) ?_
      simp only [Act.put, List.setIfInBounds_toArray, List.set_cons_zero, List.set_cons_succ]
      refine held_take 7 (some 27) rfl rfl (by kernel_rfl) (by kernel_rfl) (by kernel_rfl) (fun _ _ _ h => h) rfl hH (v := .string S) (fun w' hS => by skip; go_simp; try with_reducible rfl) ?_
      simp only [Act.put, List.setIfInBounds_toArray, List.set_cons_zero, List.set_cons_succ]
      refine held_take 8 (some 28) rfl rfl (by kernel_rfl) (by kernel_rfl) (by kernel_rfl) (fun _ _ _ h => h) rfl hH (v := ?_) (fun w' hS => by skip; go_simp; try with_reducible rfl) ?_
      simp only [Act.put, List.setIfInBounds_toArray, List.set_cons_zero, List.set_cons_succ]
      refine held_take 9 (some 29) rfl rfl (by kernel_rfl) (by kernel_rfl) (by kernel_rfl) (fun _ _ _ h => h) rfl hH (v := .int .i64 ((i : Int) + 1)) (fun w' hS => by skip; go_simp; try with_reducible rfl) ?_
      simp only [Act.put, List.setIfInBounds_toArray, List.set_cons_zero, List.set_cons_succ]
      refine held_take 10 (some 30) rfl rfl (by kernel_rfl) (by kernel_rfl) (by kernel_rfl) (fun _ _ _ h => h) rfl hH (v := .string T2) (fun w' hS => by skip; go_simp; try with_reducible rfl) ?_
      simp only [Act.put, List.setIfInBounds_toArray, List.set_cons_zero, List.set_cons_succ]
      refine held_only 4 (by kernel_rfl) rfl rfl (fun K1 hK1 => ?_)
      go_simp
      refine hK1.out _ _ ((((New.drew w2).trans (New.alloc _ _))).mono (fun _ _ x => x.elim)) (fun hH1 => ?_)
      clear hK1 K1
      refine held_only 5 (by kernel_rfl) rfl rfl (fun K2 hK2 => ?_)
      go_simp
      refine (of_lit g (N + 1 + 1) (fun l => l.length ≤ 2) [[48], [49], [50], [58], [47], [46], [57], [32]] w2.drew _ _ rfl rfl (H2.out.1.new (New.drew _)) (by omega) (by simp) (by simp) (by decide)).mono ?_
      rintro e w3 ⟨A, rfl, hA, hr3, hc3⟩
      have hc4 : Chg (· = g) w2 w3 := Chg.trans (New.drew w2) hc3 (fun _ _ x => x.elim) (fun _ _ x => x)
      refine hK2.out _ _ hc4 (fun hH2 => ?_)
      clear hK2 K2 hc3
      obtain ⟨AB, hAB⟩ : ∃ T, T = bs A := ⟨_, rfl⟩
      rw [← hAB]
      have hz3 : AB.size ≤ 2 := by rw [hAB, bs_size]; exact hA
      have H3 := Lib.hid (And.intro hA (And.intro hr3 (And.intro hc4 hAB)))
      clear hr3 hc4 hAB hA
      have a1 := fun w => run_string_add_sum (P := Tryz.prog) w T1 AB (by omega)
      have a2 := fun w => run_string_add_sum (P := Tryz.prog) w (T1 ++ AB) T2 (by rw [ByteArray.size_append]; omega)
      refine held_take 6 (some 26) rfl rfl (by kernel_rfl) (by kernel_rfl) (by kernel_rfl) (fun _ _ _ h => h) rfl hH2 (v := .string (T1 ++ AB)) (fun w' hS => by skip; go_simp; try with_reducible rfl) ?_
      simp only [Act.put, List.setIfInBounds_toArray, List.set_cons_zero, List.set_cons_succ]
      refine held_take 11 (some 31) rfl rfl (by kernel_rfl) (by kernel_rfl) (by kernel_rfl) (fun _ _ _ h => h) rfl hH2 (v := .string (T1 ++ AB ++ T2)) (fun w' hS => by skip; go_simp; try with_reducible rfl) ?_
      simp only [Act.put, List.setIfInBounds_toArray, List.set_cons_zero, List.set_cons_succ]
      refine held_take 12 (some 4) rfl rfl (by kernel_rfl) (by kernel_rfl) (by kernel_rfl) (fun _ _ _ h => h) rfl hH2 (v := ?_) (fun w' hS => by skip; go_simp; try with_reducible rfl) ?_
      simp only [Act.put, List.setIfInBounds_toArray, List.set_cons_zero, List.set_cons_succ]
      refine wpAnyH_done (by kernel_rfl) ?_ _
      go_wp2_with fail
      go_ret
      exact ⟨L.take i ++ A ++ L.drop (i + 1), ret_sb (by rw [HT.out.1, HT.out.2, H3.out.2.2.2, bs_append, bs_append]), len_sum (by rw [← HN.out]; exact hin) H3.out.1, H3.out.2.1, Chg.trans H2.out.2 H3.out.2.2.1 (fun _ _ x => x) (fun _ _ x => x)⟩
    · go_wp2_with fail
      go_ret
      exact ⟨L, ret_sb HS.out, Nat.le_add_right _ _, H2.out.1.mono (by omega), H2.out.2⟩
  · by_cases hin : i < S.size
    · go_wp2_with fail
      clear s1
      have s1 := fun w => run_sto L i (by rw [← HN.out]; exact hi) w
      have s2 : ∀ w, (Instr.slice 9 (.string (bs L)) (some (.int .i64 ((i : Int) + 1))) none none).run Tryz.prog w = .ok (.string (bs (L.drop (i + 1)))) w := fun w => by
        have h := run_slf L (i + 1) (by rw [← HN.out]; exact hin) w
        rw [Int.natCast_add] at h
        exact h
      rw [← HS.out] at s1 s2
      obtain ⟨T1, hT1⟩ : ∃ T, T = bs (L.take i) := ⟨_, rfl⟩
      obtain ⟨T2, hT2⟩ : ∃ T, T = bs (L.drop (i + 1)) := ⟨_, rfl⟩
      rw [← hT1] at s1
      rw [← hT2] at s2
      have hz1 : T1.size ≤ 1000 := by rw [hT1, bs_size, List.length_take, ← HN.out]; omega
      have hz2 : T2.size ≤ 1000 := by rw [hT2, bs_size, List.length_drop, ← HN.out]; omega
      have HT := Lib.hid (And.intro hT1 hT2)
      have hwi : IntKind.i64.wrap ((i : Int) + 1) = (i : Int) + 1 := IntWalk.i64_in _ (by omega)
      clear hT1 hT2
      refine wp_region_held_drew (S := fun w' => Chg (· = g) w2 w') (by kernel_rfl) ((New.drew w2).mono (fun _ _ x => x.elim)) (fun hH => ?_)
      refine held_take 0 (some 20) rfl rfl (by kernel_rfl) (by kernel_rfl) (by kernel_rfl) (fun _ _ _ h => h) rfl hH (v := .string S) (fun w' hS => by skip; go_simp; try with_reducible rfl) ?_
      simp only [Act.put, List.setIfInBounds_toArray, List.set_cons_zero, List.set_cons_succ]
      refine held_take 1 (some 21) rfl rfl (by kernel_rfl) (by kernel_rfl) (by kernel_rfl) (fun _ _ _ h => h) rfl hH (v := ?_) (fun w' hS => by skip; go_simp; try with_reducible rfl) ?_
      simp only [Act.put, List.setIfInBounds_toArray, List.set_cons_zero, List.set_cons_succ]
      refine held_take 2 (some 22) rfl rfl (by kernel_rfl) (by kernel_rfl) (by kernel_rfl) (fun _ _ _ h => h) rfl hH (v := .string T1) (fun w' hS => by skip; go_simp; try with_reducible rfl) ?_
      simp only [Act.put, List.setIfInBounds_toArray, List.set_cons_zero, List.set_cons_succ]
      refine held_take 3 (some 23) rfl rfl (by kernel_rfl) (by kernel_rfl) (by kernel_rfl) (fun _ _ _ h => h) rfl hH (v := ?_) (fun w' hS => by skip; go_simp; try with_reducible rfl) ?_
      simp only [Act.put, List.setIfInBounds_toArray, List.set_cons_zero, List.set_cons_succ]
      refine held_take 7 (some 27) rfl rfl (by kernel_rfl) (by kernel_rfl) (by kernel_rfl) (fun _ _ _ h => h) rfl hH (v := .string S) (fun w' hS => by skip; go_simp; try with_reducible rfl) ?_
      simp only [Act.put, List.setIfInBounds_toArray, List.set_cons_zero, List.set_cons_succ]
      refine held_take 8 (some 28) rfl rfl (by kernel_rfl) (by kernel_rfl) (by kernel_rfl) (fun _ _ _ h => h) rfl hH (v := ?_) (fun w' hS => by skip; go_simp; try with_reducible rfl) ?_
      simp only [Act.put, List.setIfInBounds_toArray, List.set_cons_zero, List.set_cons_succ]
      refine held_take 9 (some 29) rfl rfl (by kernel_rfl) (by kernel_rfl) (by kernel_rfl) (fun _ _ _ h => h) rfl hH (v := .int .i64 ((i : Int) + 1)) (fun w' hS => by skip; go_simp; try with_reducible rfl) ?_
      simp only [Act.put, List.setIfInBounds_toArray, List.set_cons_zero, List.set_cons_succ]
      refine held_take 10 (some 30) rfl rfl (by kernel_rfl) (by kernel_rfl) (by kernel_rfl) (fun _ _ _ h => h) rfl hH (v := .string T2) (fun w' hS => by skip; go_simp; try with_reducible rfl) ?_
      simp only [Act.put, List.setIfInBounds_toArray, List.set_cons_zero, List.set_cons_succ]
      refine held_only 4 (by kernel_rfl) rfl rfl (fun K1 hK1 => ?_)
      go_simp
      refine hK1.out _ _ ((((New.drew w2).trans (New.alloc _ _))).mono (fun _ _ x => x.elim)) (fun hH1 => ?_)
      clear hK1 K1
      refine held_only 5 (by kernel_rfl) rfl rfl (fun K2 hK2 => ?_)
      go_simp
      refine (of_lit g (N + 1 + 1) (fun l => l.length ≤ 2) [[48], [49], [50], [58], [47], [46], [57], [32]] w2.drew _ _ rfl rfl (H2.out.1.new (New.drew _)) (by omega) (by simp) (by simp) (by decide)).mono ?_
      rintro e w3 ⟨A, rfl, hA, hr3, hc3⟩
      have hc4 : Chg (· = g) w2 w3 := Chg.trans (New.drew w2) hc3 (fun _ _ x => x.elim) (fun _ _ x => x)
      refine hK2.out _ _ hc4 (fun hH2 => ?_)
      clear hK2 K2 hc3
      obtain ⟨AB, hAB⟩ : ∃ T, T = bs A := ⟨_, rfl⟩
      rw [← hAB]
      have hz3 : AB.size ≤ 2 := by rw [hAB, bs_size]; exact hA
      have H3 := Lib.hid (And.intro hA (And.intro hr3 (And.intro hc4 hAB)))
      clear hr3 hc4 hAB hA
      have a1 := fun w => run_string_add_sum (P := Tryz.prog) w T1 AB (by omega)
      have a2 := fun w => run_string_add_sum (P := Tryz.prog) w (T1 ++ AB) T2 (by rw [ByteArray.size_append]; omega)
      refine held_take 6 (some 26) rfl rfl (by kernel_rfl) (by kernel_rfl) (by kernel_rfl) (fun _ _ _ h => h) rfl hH2 (v := .string (T1 ++ AB)) (fun w' hS => by skip; go_simp; try with_reducible rfl) ?_
      simp only [Act.put, List.setIfInBounds_toArray, List.set_cons_zero, List.set_cons_succ]
      refine held_take 11 (some 31) rfl rfl (by kernel_rfl) (by kernel_rfl) (by kernel_rfl) (fun _ _ _ h => h) rfl hH2 (v := .string (T1 ++ AB ++ T2)) (fun w' hS => by skip; go_simp; try with_reducible rfl) ?_
      simp only [Act.put, List.setIfInBounds_toArray, List.set_cons_zero, List.set_cons_succ]
      refine held_take 12 (some 4) rfl rfl (by kernel_rfl) (by kernel_rfl) (by kernel_rfl) (fun _ _ _ h => h) rfl hH2 (v := ?_) (fun w' hS => by skip; go_simp; try with_reducible rfl) ?_
      simp only [Act.put, List.setIfInBounds_toArray, List.set_cons_zero, List.set_cons_succ]
      refine wpAnyH_done (by kernel_rfl) ?_ _
      go_wp2_with fail
      go_ret
      exact ⟨L.take i ++ A ++ L.drop (i + 1), ret_sb (by rw [HT.out.1, HT.out.2, H3.out.2.2.2, bs_append, bs_append]), len_sum (by rw [← HN.out]; exact hin) H3.out.1, H3.out.2.1, Chg.trans H2.out.2 H3.out.2.2.1 (fun _ _ x => x) (fun _ _ x => x)⟩
    · go_wp2_with fail
      go_ret
      exact ⟨L, ret_sb HS.out, Nat.le_add_right _ _, H2.out.1.mono (by omega), H2.out.2⟩
  · go_wp2_with fail
    go_ret
    exact ⟨L.take i, rfl, Nat.le_trans (by rw [List.length_take]; exact Nat.min_le_right _ _) (Nat.le_add_right _ _), H2.out.1.mono (by omega), H2.out.2⟩
  · go_wp2_with fail
    refine (of_lit g (N + 1 + 1) (fun l => l.length ≤ 2) [[48], [46], [32], [47, 49], [58]] w2 _ _ rfl rfl H2.out.1 (by omega) (by simp) (by simp) (by decide)).mono ?_
    rintro e w3 ⟨A, rfl, hA, hr3, hc3⟩
    obtain ⟨AB, hAB⟩ : ∃ T, T = bs A := ⟨_, rfl⟩
    rw [← hAB]
    have hz3 : AB.size ≤ 2 := by rw [hAB, bs_size]; exact hA
    have H3 := Lib.hid (And.intro hA (And.intro hr3 (And.intro hc3 hAB)))
    clear hr3 hc3 hAB hA
    have a1 := fun w => run_string_add_sum (P := Tryz.prog) w S AB (by omega)
    go_wp2_with fail
    go_ret
    exact ⟨L ++ A, ret_sb (by rw [HS.out, H3.out.2.2.2, bs_append]), by show _ ≤ _; rw [List.length_append]; have := H3.out.1; omega, H3.out.2.1, Chg.trans H2.out.2 H3.out.2.2.1 (fun _ _ x => x) (fun _ _ x => x)⟩
  · go_wp2_with fail
    go_ret
    exact ⟨L, ret_sb HS.out, Nat.le_add_right _ _, H2.out.1.mono (by omega), H2.out.2⟩
end Go.Proofs.YtcdbeepphdfipaaGreatDoor
