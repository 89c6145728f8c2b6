/- The generator of QuotientsOf's arguments. -/
import Derived.Test.YtahgjfmdafhedaaDrawP
import Derived.Test.YtahgjfmdafhedaaBase
namespace Go.Proofs.Ytahgjfmdafhedaa
open Go.RowKit Mat
set_option linter.unusedVariables false

theorem IsI.rest {w : World} {g n cap k : Nat} {xs : List Int} (h : IsI w (.slice (some ⟨g, 0, none⟩) n cap) xs) (hk : k ≤ n) : IsI w (.slice (some ⟨g, k, none⟩) (n - k) (cap - k)) (xs.drop k) := by
  obtain ⟨ao, cap', e, h1, h2, hm, h3⟩ := h
  cases e
  refine ⟨_, cap - k, by rw [List.length_drop], ⟨by rw [List.length_drop]; omega, by simp⟩, by omega, by unfold Mid at hm ⊢; rw [List.length_drop]; omega, fun i hi => ?_⟩
  rw [List.length_drop] at hi
  obtain ⟨b, o, e, hc⟩ := h3 (k + i) (by omega)
  cases e
  refine ⟨g, k, rfl, ?_⟩
  rw [Nat.zero_add] at hc
  rw [hc]
  congr 2
  unfold gi
  rw [List.getD_eq_getElem?_getD, List.getD_eq_getElem?_getD, List.getElem?_drop]
theorem IsI.capb2 {w : World} {ao : Option Addr} {n cap : Nat} {xs : List Int} (h : IsI w (.slice ao n cap) xs) : n ≤ cap ∧ cap ≤ 9223372036854775807 := by
  obtain ⟨ao', cap', e, h1, h2, _⟩ := h
  cases e
  unfold maxLen at h2
  exact ⟨h1.1, by omega⟩
/-- It ends with a prime, most often, and two lists. -/
def DrawsQ (w : World) (e : Ending) (w' : World) : Prop := ∃ (p : Int) (u v : Value) (xs ys : List Int), e = .returned (.tuple #[.int .i64 p, u, v]) ∧ IsI w' u xs ∧ IsI w' v ys ∧ New w w'
theorem IsI.nilAt (w : World) (a : Option Addr) : IsI w (.slice a 0 0) [] := ⟨a, 0, rfl, ⟨by simp, fun _ => rfl⟩, by simp [maxLen], by unfold Mid; simp, fun i hi => by simp at hi⟩
set_option maxRecDepth 100000 in
set_option maxHeartbeats 2000000 in
theorem drawQuotientsOf_any (v : Value) (n : Nat) (w : World) (hb : RawB w v n) :
    Calls Try.prog 14 #[v] w fun e w' => DrawsQ w e w' := by
  obtain ⟨ao, cap, rfl, -⟩ := id hb
  have HB := Lib.hid hb
  clear hb
  go_enter Try.func14, Try.ntmps14
  go_wp2_with fail
  refine (newReader_any _ _ _ HB.out).mono ?_
  rintro e w1 ⟨rfl, hr1, hn1⟩
  have H1 := Lib.hid (And.intro hr1 hn1)
  clear hr1 hn1
  go_wp2_with fail
  refine (aPrime_any w.heap.size 0 _ H1.out.1 (by omega)).mono ?_
  rintro e w2 ⟨p, rfl, hp, hr2, hc2⟩
  have H2 := Lib.hid (And.intro hr2 (H1.out.2.then hc2 (fun k hk => Nat.le_of_eq hk.symm)))
  clear hr2 hc2
  go_wp2_with fail
  refine (pick_any w.heap.size _ 6 _ H2.out.1 (by omega) (by omega)).mono ?_
  rintro e w3 ⟨x, rfl, hx, hr3, hc3⟩
  have hx7 := hx.2.1 (by omega)
  have hx0 := hx.1
  have H3 := Lib.hid (And.intro hr3 (H2.out.2.then hc3 (fun k hk => Nat.le_of_eq hk.symm)))
  clear hr3 hc3 hx
  go_wp2_with fail
  refine (pointsOf_any w.heap.size _ p (2 + x) _ H3.out.1 (by omega) (by omega) (by omega)).mono ?_
  rintro e w4 ⟨u, xs, rfl, ho, hf, hl, hr4, hc4⟩
  have hlen : xs.length ≤ 7 := by have : (xs.length : Int) ≤ max (2 + x) 0 := hl; omega
  obtain ⟨a4, l4, c4, rfl, HL4, _, _⟩ := ho.opened (by rw [List.length_map]; unfold Mid; omega)
  have hl47 : l4 ≤ 7 := by rw [HL4.out, List.length_map]; exact hlen
  have H4 := Lib.hid (And.intro (And.intro ho hf) (And.intro hr4 (H3.out.2.then hc4 (fun k hk => Nat.le_of_eq hk.symm))))
  have HS := Lib.hid (show w.heap.size < w3.heap.size from H3.out.1.lt)
  clear ho hf hr4 hc4 hl
  go_wp2_with fail
  refine (pick_any w.heap.size _ ((l4 : Int) + 1) _ H4.out.2.1 (by omega) (by omega)).mono ?_
  rintro e wz ⟨y, rfl, hy, hr5, hc5⟩
  have hy1 := hy.2.1 (by omega)
  obtain ⟨k, rfl⟩ : ∃ k : Nat, y = k := ⟨y.toNat, by have := hy.1; omega⟩
  have hkl : k ≤ l4 := by omega
  have hown := H4.out.1.1.chg hc5 (fun g hg e => by have := H4.out.1.2 g hg; have := HS.out; omega)
  have H5 := Lib.hid (And.intro hown (H4.out.2.2.then hc5 (fun k hk => Nat.le_of_eq hk.symm)))
  have hii := hown.isI (by unfold Mid; omega)
  have hcb := hii.capb2
  have HI := Lib.hid hii
  have hkI : ((k : Nat) : Int).toNat = k := Int.toNat_natCast k
  have hcm : c4 ≤ 9223372036854775807 := hcb.2
  have hlc : l4 ≤ c4 := hcb.1
  clear hr5 hc5 hy hy1 hown hii hcb
  go_upto_region 5 with fail
  by_cases hck : c4 = k
  · obtain rfl : k = l4 := by omega
    subst hck
    have hkc : c4 = c4 := rfl
    clear hkc
    have hkc : True := trivial
    have hkc2 : True := trivial
    refine wp_region_held_drew (S := fun w' => New wz w') (by kernel_rfl) (New.drew _) (fun hY => ?_)
    refine held_take 0 (some 24) rfl rfl (by kernel_rfl) (by kernel_rfl) (by kernel_rfl) (fun _ _ _ h => h) rfl hY (v := ?_) (fun w' hS => by skip; go_simp; try with_reducible rfl) ?_
    simp only [Act.put, List.setIfInBounds_toArray, List.set_cons_zero, List.set_cons_succ]
    refine held_take 1 (some 25) rfl rfl (by kernel_rfl) (by kernel_rfl) (by kernel_rfl) (fun _ _ _ h => h) rfl hY (v := ?_) (fun w' hS => by skip; go_simp; try with_reducible rfl) ?_
    simp only [Act.put, List.setIfInBounds_toArray, List.set_cons_zero, List.set_cons_succ]
    refine held_take 2 (some 26) rfl rfl (by kernel_rfl) (by kernel_rfl) (by kernel_rfl) (fun _ _ _ h => h) rfl hY (v := ?_) (fun w' hS => by skip; go_simp; try with_reducible rfl) ?_
    simp only [Act.put, List.setIfInBounds_toArray, List.set_cons_zero, List.set_cons_succ]
    refine held_take 3 (some 27) rfl rfl (by kernel_rfl) (by kernel_rfl) (by kernel_rfl) (fun _ _ _ h => h) rfl hY (v := .slice a4 c4 c4) (fun w' hS => by skip; go_simp; try (first | (with_reducible rfl) | (intro h; exact absurd h hkc2) | (simp [hkc, hkl, hkI, hkc2]; done) | (simp [hkc, hkl, hkI, hkc2]; omega) | trace_state)) ?_
    simp only [Act.put, List.setIfInBounds_toArray, List.set_cons_zero, List.set_cons_succ]
    refine held_take 4 (some 28) rfl rfl (by kernel_rfl) (by kernel_rfl) (by kernel_rfl) (fun _ _ _ h => h) rfl hY (v := ?_) (fun w' hS => by skip; go_simp; try with_reducible rfl) ?_
    simp only [Act.put, List.setIfInBounds_toArray, List.set_cons_zero, List.set_cons_succ]
    refine held_take 5 (some 29) rfl rfl (by kernel_rfl) (by kernel_rfl) (by kernel_rfl) (fun _ _ _ h => h) rfl hY (v := ?_) (fun w' hS => by skip; go_simp; try with_reducible rfl) ?_
    simp only [Act.put, List.setIfInBounds_toArray, List.set_cons_zero, List.set_cons_succ]
    refine held_take 6 (some 30) rfl rfl (by kernel_rfl) (by kernel_rfl) (by kernel_rfl) (fun _ _ _ h => h) rfl hY (v := .slice a4 0 0) (fun w' hS => by skip; go_simp; try (first | (with_reducible rfl) | (intro h; exact absurd h hkc2) | (simp [hkc, hkl, hkI, hkc2]; done) | (simp [hkc, hkl, hkI, hkc2]; omega) | trace_state)) ?_
    simp only [Act.put, List.setIfInBounds_toArray, List.set_cons_zero, List.set_cons_succ]
    refine held_take 7 (some 2) rfl rfl (by kernel_rfl) (by kernel_rfl) (by kernel_rfl) (fun _ _ _ h => h) rfl hY (v := ?_) (fun w' hS => by skip; go_simp; try with_reducible rfl) ?_
    simp only [Act.put, List.setIfInBounds_toArray, List.set_cons_zero, List.set_cons_succ]
    refine held_take 8 (some 3) rfl rfl (by kernel_rfl) (by kernel_rfl) (by kernel_rfl) (fun _ _ _ h => h) rfl hY (v := ?_) (fun w' hS => by skip; go_simp; try with_reducible rfl) ?_
    simp only [Act.put, List.setIfInBounds_toArray, List.set_cons_zero, List.set_cons_succ]
    refine held_take 9 (some 4) rfl rfl (by kernel_rfl) (by kernel_rfl) (by kernel_rfl) (fun _ _ _ h => h) rfl hY (v := ?_) (fun w' hS => by skip; go_simp; try with_reducible rfl) ?_
    simp only [Act.put, List.setIfInBounds_toArray, List.set_cons_zero, List.set_cons_succ]
    refine wpAnyH_done (by kernel_rfl) ?_ _
    go_wp2_with fail
    go_ret3
    exact ⟨p, _, _, xs, [], rfl, HI.out.new hY, IsI.nilAt _ _, H5.out.2.trans hY⟩
  · have hkc : ¬ c4 = k := hck
    have hkc2 : ¬ c4 < k := by omega
    obtain ⟨g4, rfl⟩ : ∃ g, a4 = some ⟨g, 0, none⟩ := by
      rcases H5.out.1 with ⟨e, _⟩ | ⟨g, c, cur, e, _⟩
      · cases e; omega
      · cases e; exact ⟨g, rfl⟩
    refine wp_region_held_drew (S := fun w' => New wz w') (by kernel_rfl) (New.drew _) (fun hY => ?_)
    refine held_take 0 (some 24) rfl rfl (by kernel_rfl) (by kernel_rfl) (by kernel_rfl) (fun _ _ _ h => h) rfl hY (v := ?_) (fun w' hS => by skip; go_simp; try with_reducible rfl) ?_
    simp only [Act.put, List.setIfInBounds_toArray, List.set_cons_zero, List.set_cons_succ]
    refine held_take 1 (some 25) rfl rfl (by kernel_rfl) (by kernel_rfl) (by kernel_rfl) (fun _ _ _ h => h) rfl hY (v := ?_) (fun w' hS => by skip; go_simp; try with_reducible rfl) ?_
    simp only [Act.put, List.setIfInBounds_toArray, List.set_cons_zero, List.set_cons_succ]
    refine held_take 2 (some 26) rfl rfl (by kernel_rfl) (by kernel_rfl) (by kernel_rfl) (fun _ _ _ h => h) rfl hY (v := ?_) (fun w' hS => by skip; go_simp; try with_reducible rfl) ?_
    simp only [Act.put, List.setIfInBounds_toArray, List.set_cons_zero, List.set_cons_succ]
    refine held_take 3 (some 27) rfl rfl (by kernel_rfl) (by kernel_rfl) (by kernel_rfl) (fun _ _ _ h => h) rfl hY (v := .slice (some ⟨g4, 0, none⟩) k c4) (fun w' hS => by skip; go_simp; try (first | (with_reducible rfl) | (intro h; exact absurd h hkc2) | (simp [hkc, hkl, hkI, hkc2]; done) | (simp [hkc, hkl, hkI, hkc2]; omega) | trace_state)) ?_
    simp only [Act.put, List.setIfInBounds_toArray, List.set_cons_zero, List.set_cons_succ]
    refine held_take 4 (some 28) rfl rfl (by kernel_rfl) (by kernel_rfl) (by kernel_rfl) (fun _ _ _ h => h) rfl hY (v := ?_) (fun w' hS => by skip; go_simp; try with_reducible rfl) ?_
    simp only [Act.put, List.setIfInBounds_toArray, List.set_cons_zero, List.set_cons_succ]
    refine held_take 5 (some 29) rfl rfl (by kernel_rfl) (by kernel_rfl) (by kernel_rfl) (fun _ _ _ h => h) rfl hY (v := ?_) (fun w' hS => by skip; go_simp; try with_reducible rfl) ?_
    simp only [Act.put, List.setIfInBounds_toArray, List.set_cons_zero, List.set_cons_succ]
    refine held_take 6 (some 30) rfl rfl (by kernel_rfl) (by kernel_rfl) (by kernel_rfl) (fun _ _ _ h => h) rfl hY (v := .slice (some ⟨g4, k, none⟩) (l4 - k) (c4 - k)) (fun w' hS => by skip; go_simp; try (first | (with_reducible rfl) | (intro h; exact absurd h hkc2) | (simp [hkc, hkl, hkI, hkc2]; done) | (simp [hkc, hkl, hkI, hkc2]; omega) | trace_state)) ?_
    simp only [Act.put, List.setIfInBounds_toArray, List.set_cons_zero, List.set_cons_succ]
    refine held_take 7 (some 2) rfl rfl (by kernel_rfl) (by kernel_rfl) (by kernel_rfl) (fun _ _ _ h => h) rfl hY (v := ?_) (fun w' hS => by skip; go_simp; try with_reducible rfl) ?_
    simp only [Act.put, List.setIfInBounds_toArray, List.set_cons_zero, List.set_cons_succ]
    refine held_take 8 (some 3) rfl rfl (by kernel_rfl) (by kernel_rfl) (by kernel_rfl) (fun _ _ _ h => h) rfl hY (v := ?_) (fun w' hS => by skip; go_simp; try with_reducible rfl) ?_
    simp only [Act.put, List.setIfInBounds_toArray, List.set_cons_zero, List.set_cons_succ]
    refine held_take 9 (some 4) rfl rfl (by kernel_rfl) (by kernel_rfl) (by kernel_rfl) (fun _ _ _ h => h) rfl hY (v := ?_) (fun w' hS => by skip; go_simp; try with_reducible rfl) ?_
    simp only [Act.put, List.setIfInBounds_toArray, List.set_cons_zero, List.set_cons_succ]
    refine wpAnyH_done (by kernel_rfl) ?_ _
    go_wp2_with fail
    go_ret3
    exact ⟨p, _, _, xs.take k, xs.drop k, rfl, (HI.out.new hY).take hkl, (HI.out.new hY).rest hkl, H5.out.2.trans hY⟩
end Go.Proofs.Ytahgjfmdafhedaa
