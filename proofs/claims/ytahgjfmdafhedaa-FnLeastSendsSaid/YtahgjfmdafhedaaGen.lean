/- The generators' small parts: one of a list, a prime. -/
import Derived.Test.YtahgjfmdafhedaaRead
import Derived.Test.YtahgjfmdafhedaaRedP
import Derived.Test.YtahgjfmdafhedaaLeaf
namespace Go.Proofs.Ytahgjfmdafhedaa
open Go.RowKit
set_option linter.unusedVariables false

theorem Picks.mono {g N M : Nat} {w : World} {e : Ending} {w' : World} {Q R : Int → Prop} (h : Picks g N w e w' Q) (hm : N ≤ M) (hq : ∀ x, Q x → R x) : Picks g M w e w' R := by
  obtain ⟨x, h1, h2, h3, h4⟩ := h
  exact ⟨x, h1, hq x h2, h3.mono hm, h4⟩

/-- A list that has just been laid. -/
theorem Own.lit (w : World) (t : TypeId) (us : List Value) (hm : us.length ≤ 1000) : Own (w.alloc (.cells us.toArray t)) t (.slice (some ⟨w.heap.size, 0, none⟩) us.length us.length) us :=
  .inr ⟨w.heap.size, us.length, us.toArray, rfl, heap_alloc_new w _, Nat.le_refl _, by simp only [maxLen]; omega, by simp, by simp⟩
theorem IsI.lit (w : World) (t : TypeId) (xs : List Int) (hm : xs.length ≤ 1000) : IsI (w.alloc (.cells (xs.map (Value.int .i64)).toArray t)) (.slice (some ⟨w.heap.size, 0, none⟩) xs.length xs.length) xs := by
  have h := Own.lit w t (xs.map (Value.int .i64)) (by rw [List.length_map]; exact hm)
  rw [List.length_map] at h
  exact h.isI (by unfold Mid; omega)

set_option maxHeartbeats 1000000 in
theorem one_any (g N : Nat) (v : Value) (xs : List Int) (w : World) (hr : Rd w g N) (hN : N ≤ 1000000) (hx : IsI w v xs) (h0 : 0 < xs.length) (hl : xs.length ≤ 1000) (hb : ∀ b, v.ownBlock = some b → b ≠ g) :
    Calls Try.prog 35 #[.pointer (some ⟨g, 0, none⟩), v] w fun e w' => Picks g (N + 1) w e w' (fun x => ∃ i, i < xs.length ∧ x = gi xs i) := by
  obtain ⟨ao, n, cap, rfl, HN, hn⟩ := hx.shape
  have hn0 : 0 < n := by rw [HN.out]; exact h0
  have hnl : n ≤ 1000 := by rw [HN.out]; exact hl
  have HX := Lib.hid hx
  have HB := Lib.hid hb
  have HR := Lib.hid hr
  clear hx hb hr h0 hl
  go_enter Try.func35, Try.ntmps35
  go_wp2_with fail
  refine (pick_any g N n _ HR.out hN (by omega)).mono ?_
  rintro e w1 ⟨x, rfl, hp, hr1, hc1⟩
  have hp0 := hp.1
  have hpn := hp.2.1 (by omega)
  obtain ⟨i, rfl⟩ : ∃ i : Nat, x = i := ⟨x.toNat, by omega⟩
  have hin : i < n := by omega
  obtain ⟨b, o, rfl, cx⟩ := (HX.out.chg hc1 (fun g' hg' e => HB.out g' hg' e)).at hin
  have HE := Lib.hid (And.intro hr1 hc1)
  clear hp hr1 hc1
  go_wp2_with fail
  go_ret
  exact ⟨_, rfl, ⟨i, by rw [← HN.out]; exact hin, rfl⟩, HE.out.1, HE.out.2⟩

/-- One of a list that has just been laid. -/
theorem one_lit (g N : Nat) (Q : Int → Prop) (xs : List Int) (w : World) (t : TypeId) (cs : Array Value) (n : Nat) (hcs : cs = (xs.map (Value.int .i64)).toArray) (hn : n = xs.length) (hr : Rd w g N) (hN : N ≤ 1000000) (h0 : 0 < xs.length) (hl : xs.length ≤ 1000) (hQ : ∀ x ∈ xs, Q x) :
    Calls Try.prog 35 #[.pointer (some ⟨g, 0, none⟩), .slice (some ⟨w.heap.size, 0, none⟩) n n] (w.alloc (.cells cs t)) fun e w' => Picks g (N + 1) w e w' Q := by
  subst hcs hn
  have hlt := hr.lt
  refine (one_any g N _ xs _ (hr.new (New.alloc _ _)) hN (IsI.lit w t xs hl) h0 hl (fun b hb => by simp [Value.ownBlock] at hb; omega)).mono ?_
  rintro e w' ⟨x, h1, ⟨i, hi, h2⟩, h3, h4⟩
  exact ⟨x, h1, hQ x (by rw [h2, gi_lt hi]; exact List.getElem_mem hi), h3, Chg.trans (New.alloc _ _) h4 (fun _ _ x => x.elim) (fun _ _ x => x)⟩

set_option maxHeartbeats 1000000 in
theorem aPrime_any (g N : Nat) (w : World) (hr : Rd w g N) (hN : N ≤ 900000) :
    Calls Try.prog 32 #[.pointer (some ⟨g, 0, none⟩)] w fun e w' => Picks g (N + 2) w e w' (fun p => -1 ≤ p ∧ p ≤ 11) := by
  have HR := Lib.hid hr
  clear hr
  go_enter Try.func32, Try.ntmps32
  go_wp2_with fail
  refine (pick_any g N 24 _ HR.out (by omega) (by omega)).mono ?_
  rintro e w1 ⟨x, rfl, hp, hr1, hc1⟩
  have H1 := Lib.hid (And.intro hr1 hc1)
  clear hp hr1 hc1
  by_cases hx : x = 0
  · subst hx
    go_wp2_with fail
    refine (one_lit g (N + 1) (fun p => -1 ≤ p ∧ p ≤ 11) [4, 0, 1, 11, -1] _ _ _ _ rfl rfl H1.out.1 (by omega) (by simp) (by simp) (by decide)).mono ?_
    rintro e w2 ⟨p, rfl, hp, hr2, hc2⟩
    have H2 := Lib.hid (And.intro hp (And.intro hr2 hc2))
    clear hp hr2 hc2
    go_wp2_with fail
    go_ret
    exact ⟨p, rfl, H2.out.1, H2.out.2.1, Chg.trans H1.out.2 H2.out.2.2 (fun _ _ x => x) (fun _ _ x => x)⟩
  · have hd : (x == 0) = false := by simp; omega
    go_wp2_with fail
    refine (one_lit g (N + 1) (fun p => -1 ≤ p ∧ p ≤ 11) [2, 3, 5, 7, 2, 3] _ _ _ _ rfl rfl H1.out.1 (by omega) (by simp) (by simp) (by decide)).mono ?_
    rintro e w2 ⟨p, rfl, hp, hr2, hc2⟩
    have H2 := Lib.hid (And.intro hp (And.intro hr2 hc2))
    clear hp hr2 hc2
    go_wp2_with fail
    go_ret
    exact ⟨p, rfl, H2.out.1, H2.out.2.1, Chg.trans H1.out.2 H2.out.2.2 (fun _ _ x => x) (fun _ _ x => x)⟩
end Go.Proofs.Ytahgjfmdafhedaa
