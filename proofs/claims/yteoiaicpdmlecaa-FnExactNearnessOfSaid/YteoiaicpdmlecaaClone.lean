/- slices.Clone, slices.Clip at numbers and at rows; spec.copyRows. -/
import Derived.Test.YteoiaicpdmlecaaAdd
import Derived.Outline
namespace Go.Proofs.Yteoiaicpdmlecaa
open Go.RowKit
set_option linter.unusedVariables false

theorem tyInt : OneTy Try.prog 31 3 (.int .i64 0) := OneTy.mk (n := 1) (b := 8) Try.underlying31 (by kernel_rfl) rfl (by decide) rfl
theorem tyRow : OneTy Try.prog 22 31 (.slice none 0 0) := OneTy.mk (n := 1) (b := 24) Try.underlying22 (by kernel_rfl) rfl (by decide) rfl

/-- What append asks of a source of numbers. -/
theorem IsI.src {w : World} {so : Option Addr} {n c : Nat} {xs : List Int} (h : IsI w (.slice so n c) xs) :
    (xs.map (Value.int .i64)).length = n ∧ (so = none → n = 0 ∧ c = 0) ∧ (∀ ad, so = some ad → ∀ j u, (xs.map (Value.int .i64))[j]? = some u → w.cell? (ad.add j) = some u) ∧ (∀ u ∈ xs.map (Value.int .i64), u.oneCell' = true) := by
  refine ⟨by rw [List.length_map, h.len], fun hs => by subst hs; exact h.nilCap, fun ad had j u hj => ?_, fun u hu => ?_⟩
  · have hjl : j < xs.length := by have := (List.getElem?_eq_some_iff.1 hj).1; simpa using this
    obtain ⟨b, o, e, hc⟩ := h.at (i := j) (by rw [h.len]; exact hjl)
    rw [had] at e
    obtain rfl := Option.some.inj e
    rw [Addr.add_lit, hc, gi_lt hjl]
    rw [List.getElem?_map, List.getElem?_eq_getElem hjl] at hj
    simpa using hj
  · obtain ⟨x, _, rfl⟩ := List.mem_map.1 hu; rfl

theorem Own.empty (w : World) (e : TypeId) : Own (w.alloc (.cells #[] e)) e (.slice (some ⟨w.heap.size, 0, none⟩) 0 0) [] :=
  .inr ⟨w.heap.size, 0, #[], rfl, heap_alloc_new w _, by simp, by simp [maxLen], by simp, rfl⟩

theorem From.new (w : World) (n c : Nat) : From w.heap.size (.slice (some ⟨w.heap.size, 0, none⟩) n c) := fun g hg => by simp [Value.ownBlock] at hg; omega

theorem From.nil (B : Nat) : From B (.slice none 0 0) := fun g hg => by simp [Value.ownBlock] at hg

set_option maxHeartbeats 1000000 in
theorem clone_any (v : Value) (xs : List Int) (w : World) (hx : IsI w v xs) :
    Calls Try.prog 95 #[v] w fun e w' => ∃ u, e = .returned u ∧ Own w' 3 u (xs.map (Value.int .i64)) ∧ From w.heap.size u ∧ New w w' := by
  obtain ⟨ao, n, cap, rfl, HN, hn⟩ := hx.shape
  have hnil := Lib.run_eql_slice_nil (P := Try.prog) w 31 3 ao n cap 0 0 Try.underlying31
  have HX := Lib.hid hx
  cases ao with
  | none =>
    obtain ⟨rfl, rfl⟩ := hx.nilCap
    have hxs : xs = [] := List.eq_nil_of_length_eq_zero HN.out.symm
    clear hx
    subst hxs
    go_enter Try.func95, Try.ntmps95
    go_wp2
    go_ret
    exact ⟨_, rfl, Own.nil _ _, From.nil _, Chg.refl _ _⟩
  | some ad =>
    have hsrc := (hx.new (New.alloc w (.cells #[] 3))).src
    have HS := Lib.hid hsrc
    clear hx hsrc
    go_enter Try.func95, Try.ntmps95
    go_wp2_with (at_builtin; refine wpList_app rfl _ _ _ rfl tyInt (Own.empty w 3) rfl (some ad) n cap (xs.map (Value.int .i64)) rfl HS.out.1 HS.out.2.1 HS.out.2.2.1 HS.out.2.2.2 (by simpa using hn) ?_; intro v' w' k1 k2 k3; have K := Lib.hid (And.intro k1 (And.intro k2 k3)); clear k1 k2 k3)
    go_ret
    obtain ⟨k1, k2, k3⟩ := K.out
    refine ⟨_, rfl, k1, fun g hg => ?_, New.then (New.alloc _ _) k2 (fun i hi => ?_)⟩
    · rcases k3 g hg with k | k
      · have k := Option.some.inj (show some w.heap.size = some g from k); omega
      · simp at k; omega
    · have k := Option.some.inj (show some w.heap.size = some i from hi); omega

theorem clip_any (v : Value) (xs : List Value) (w : World) (hx : Own w 3 v xs) (hm : Mid xs.length) :
    Calls Try.prog 63 #[v] w fun e w' => ∃ u, e = .returned u ∧ Own w' 3 u xs ∧ u.ownBlock = v.ownBlock ∧ w = w' := by
  obtain ⟨ao, n, cap, rfl, HN, hn, HC⟩ := hx.opened hm
  have hc := HC.out.1
  go_enter Try.func63, Try.ntmps63
  go_wp2
  go_ret
  refine ⟨_, rfl, ?_, ?_, rfl⟩
  · rcases hx with ⟨h, rfl⟩ | ⟨g, cap', cur, hv, hh, h1, h2, h3, ht⟩
    · simp at h
      obtain ⟨rfl, rfl, rfl⟩ := h
      exact .inl ⟨rfl, rfl⟩
    · simp at hv
      obtain ⟨rfl, rfl, rfl⟩ := hv
      exact .inr ⟨g, xs.length, cur, rfl, hh, Nat.le_refl _, by omega, by omega, ht⟩
  · cases ao <;> rfl

theorem clipR_any (v : Value) (xs : List Value) (w : World) (hx : Own w 31 v xs) (hm : Mid xs.length) :
    Calls Try.prog 112 #[v] w fun e w' => ∃ u, e = .returned u ∧ Own w' 31 u xs ∧ u.ownBlock = v.ownBlock ∧ w = w' := by
  obtain ⟨ao, n, cap, rfl, HN, hn, HC⟩ := hx.opened hm
  have hc := HC.out.1
  go_enter Try.func112, Try.ntmps112
  go_wp2
  go_ret
  refine ⟨_, rfl, ?_, ?_, rfl⟩
  · rcases hx with ⟨h, rfl⟩ | ⟨g, cap', cur, hv, hh, h1, h2, h3, ht⟩
    · simp at h
      obtain ⟨rfl, rfl, rfl⟩ := h
      exact .inl ⟨rfl, rfl⟩
    · simp at hv
      obtain ⟨rfl, rfl, rfl⟩ := hv
      exact .inr ⟨g, xs.length, cur, rfl, hh, Nat.le_refl _, by omega, by omega, ht⟩
  · cases ao <;> rfl
end Go.Proofs.Yteoiaicpdmlecaa
