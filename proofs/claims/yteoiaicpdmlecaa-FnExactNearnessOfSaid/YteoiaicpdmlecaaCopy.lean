/- spec.copyRows hands back rows of its own. -/
import Derived.Test.YteoiaicpdmlecaaClone
import Derived.Outline
namespace Go.Proofs.Yteoiaicpdmlecaa
open Go.RowKit
set_option linter.unusedVariables false

/-- Rows whose blocks are all from B on. -/
def FromR (B : Nat) (v : Value) (vs : List Value) (rows : List (List Int)) : Prop := From B v ∧ ∀ i, i < rows.length → From B (gv vs i)

theorem gv_snoc_lt {vs : List Value} {u : Value} {i : Nat} (h : i < vs.length) : gv (vs ++ [u]) i = gv vs i := by
  rw [gv_lt (by simp; omega), gv_lt h, List.getElem_append_left h]

theorem gv_snoc_eq {vs : List Value} {u : Value} {i : Nat} (h : i = vs.length) : gv (vs ++ [u]) i = u := by
  rw [gv_lt (by simp; omega)]; simp [h]

/-- A row of one's own is laid behind the others. -/
theorem OwnR.push {w w1 w2 : World} {v v' u : Value} {vs : List Value} {rows : List (List Int)} {xs : List Int} {B : Nat}
    (h : OwnR w 31 3 v vs rows) (hf : FromR B v vs rows) (hB : B ≤ w.heap.size) (h1 : New w w1) (hu : Own w1 3 u (xs.map (Value.int .i64))) (hfu : From w.heap.size u)
    (hv' : Own w2 31 v' (vs ++ [u])) (h2 : Chg (fun k => v.ownBlock = some k) w1 w2) (hn : ∀ g, v'.ownBlock = some g → v.ownBlock = some g ∨ w1.heap.size ≤ g) :
    OwnR w2 31 3 v' (vs ++ [u]) (rows ++ [xs]) ∧ FromR B v' (vs ++ [u]) (rows ++ [xs]) ∧ Chg (fun k => v.ownBlock = some k) w w2 := by
  have hne : (31 : Nat) ≠ 3 := by decide
  have hs := h1.size
  have hvu : ∀ g, v.ownBlock = some g → u.ownBlock ≠ some g := fun g hg hg' => by have := h.outer.lt hg; have := hfu g hg'; omega
  refine ⟨OwnR.snoc hv' h.len (fun i hi => ((h.inner i hi).new h1).chg h2 (fun g hg hs => h.outer_apart hne hi g hs hg)) h.apart (hu.chg h2 (fun g hg hs => hvu g hs hg)) (fun i hi => From.apart hfu (h.inner i hi)), ⟨fun g hg => ?_, fun i hi => ?_⟩,
    Chg.trans h1 h2 (fun _ _ x => x.elim) (fun _ _ x => x)⟩
  · rcases hn g hg with k | k
    · exact hf.1 g k
    · omega
  · simp at hi
    by_cases e : i < rows.length
    · rw [gv_snoc_lt (by rw [h.len]; exact e)]; exact hf.2 i e
    · rw [gv_snoc_eq (by rw [h.len]; omega)]; exact hfu.mono hB

set_option maxHeartbeats 1000000 in
theorem copyRows_any (v : Value) (rows : List (List Int)) (w : World) (hr : IsR w v rows) :
    Calls Try.prog 118 #[v] w fun e w' => ∃ u vs, e = .returned u ∧ OwnR w' 31 3 u vs rows ∧ FromR w.heap.size u vs rows ∧ New w w' := by
  obtain ⟨ao, n, cap, rfl, HN, hn⟩ := hr.shape
  have HR := Lib.hid hr
  clear hr
  go_enter Try.func118, Try.ntmps118
  go_wp2
  go_loopw [3, 4] (fun v3 i wr => ∃ (k : Nat) (vs : List Value), i = .int .i64 k ∧ k ≤ n ∧ OwnR wr 31 3 v3 vs (rows.take k) ∧ FromR w.heap.size v3 vs (rows.take k) ∧ New w wr) (fun _ i _ => n - (intOf i).toNat)
  case atStart =>
    exact ⟨0, [], rfl, Nat.zero_le _, ⟨Own.empty _ _, rfl, fun i hi => by simp at hi, fun i j hi => by simp at hi⟩, ⟨From.new _ _ _, fun i hi => by simp at hi⟩, New.alloc _ _⟩
  case round =>
    obtain ⟨k, vs, rfl, hk, hown, hfrom, hnew⟩ := hrel
    have HO := Lib.hid hown
    have HF := Lib.hid hfrom
    clear hown hfrom
    by_cases hkn : k < n
    · have hkr : k < rows.length := by rw [← HN.out]; exact hkn
      obtain ⟨b, o, u, rfl, ck, hu⟩ := (HR.out.new hnew).at hkn
      obtain ⟨au, nu, cu, rfl, HNU, hnu⟩ := hu.shape
      have HS := Lib.hid (hu.new (New.alloc wr (.cells #[] 3))).src
      have hlen : vs.length ≤ 1099511627775 := by rw [HO.out.len]; simp; omega
      have HNEW := Lib.hid hnew
      have ck' := (New.alloc wr (.cells #[] 3)).cellNew ck
      clear hu hnew ck
      go_wp2_with (first
        | (at_builtin; refine wpList_app rfl (.tmp 13) (.tmp 17) _ rfl tyInt (Own.empty wr 3) rfl au nu cu ((gr rows k).map (Value.int .i64)) rfl HS.out.1 HS.out.2.1 HS.out.2.2.1 HS.out.2.2.2 (by simpa using hnu) ?_; intro v1 w1 k1 k2 k3; obtain ⟨a1, l1, c1, rfl, _, _, _⟩ := k1.opened (by rw [List.length_append, HS.out.1]; simpa [Mid] using hnu); have K1 := Lib.hid (And.intro k1 (And.intro k2 k3)); clear k1 k2 k3)
        | (at_builtin; refine wpList_app1 rfl (.tmp 12) (.tmp 19) _ rfl tyRow w1 (HO.out.outer.new (New.then (New.alloc _ _) K1.out.2.1 (fun i hi => Nat.le_of_eq (Option.some.inj hi)))) rfl _ _ rfl rfl rfl (by omega) ?_; intro v2 w2 k1 k2 k3; have K2 := Lib.hid (And.intro k1 (And.intro k2 k3)); clear k1 k2 k3))
      go_roundw
      case rel =>
        obtain ⟨k1, k2, k3⟩ := K1.out
        obtain ⟨m1, m2, m3⟩ := K2.out
        have n1 : New wr w1 := New.then (New.alloc _ _) k2 (fun i hi => Nat.le_of_eq (Option.some.inj hi))
        have hf1 : From wr.heap.size (Value.slice a1 l1 c1) := fun g hg => by
          rcases k3 g hg with x | x
          · exact Nat.le_of_eq (Option.some.inj x)
          · simp at x; omega
        obtain ⟨p1, p2, p3⟩ := OwnR.push HO.out HF.out HNEW.out.size n1 (by simpa using k1) hf1 m1 m2 m3
        refine ⟨k + 1, vs ++ [Value.slice a1 l1 c1], by go_num, by omega, ?_, ?_, New.then HNEW.out p3 (fun i hi => HF.out.1 i hi)⟩
        · rw [take_succ_gr hkr]; exact p1
        · rw [take_succ_gr hkr]; exact p2
      case measure => simp [intOf]; omega
    · obtain rfl : k = n := by omega
      go_wp2
      go_ret
      have e : rows.take k = rows := List.take_of_length_le (by rw [← HN.out]; exact Nat.le_refl _)
      have h1 := HO.out
      have h2 := HF.out
      rw [e] at h1 h2
      exact ⟨_, vs, rfl, h1, h2, hnew⟩
end Go.Proofs.Yteoiaicpdmlecaa
