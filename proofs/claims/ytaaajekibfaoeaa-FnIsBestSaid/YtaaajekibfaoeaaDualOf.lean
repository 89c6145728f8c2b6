/- DualOf of both. -/
import Derived.Test.YtaaajekibfaoeaaNulk
import Derived.Test.YtaaajekibfaoeaaPlainOf
namespace Go.Proofs.Ytaaajekibfaoeaa
open Go.RowKit Mat
set_option linter.unusedVariables false

/-- It ends with a code of its own and an answer. -/
def GivesCB (w : World) (e : Ending) (w' : World) (Q : Int → List (List Int) → Bool → Prop) : Prop :=
  ∃ u vs out p ok, e = .returned (.tuple #[.agg #[.int .i64 p, u], .bool ok]) ∧ OwnR w' 31 3 u vs out ∧ FromR w.heap.size u vs out ∧ Q p out ok ∧ New w w'

/-- What DualOf answers. -/
structure DualQ (p : Int) (rows : List (List Int)) (p' : Int) (out : List (List Int)) (ok : Bool) : Prop where
  yes : ValidC p rows → ∃ checks, NulC p rows checks ∧ (inB checks.length 1 4 = true → p' = p ∧ out = checks ∧ ok = true) ∧ (inB checks.length 1 4 = false → p' = 0 ∧ out = [] ∧ ok = false)
  no : ¬ ValidC p rows → p' = 0 ∧ out = [] ∧ ok = false
theorem DualQ.unique {p : Int} {rows : List (List Int)} {p1 p2 : Int} {a b : List (List Int)} {x y : Bool} (h : DualQ p rows p1 a x) (h' : DualQ p rows p2 b y) : p1 = p2 ∧ a = b ∧ x = y := by
  by_cases c : ValidC p rows
  · obtain ⟨k, hk, h1, h2⟩ := h.yes c
    obtain ⟨k', hk', h1', h2'⟩ := h'.yes c
    obtain rfl := hk.unique hk'
    cases hb : inB k.length 1 4 with
    | true =>
      obtain ⟨rfl, rfl, rfl⟩ := h1 hb
      obtain ⟨rfl, rfl, rfl⟩ := h1' hb
      exact ⟨rfl, rfl, rfl⟩
    | false =>
      obtain ⟨rfl, rfl, rfl⟩ := h2 hb
      obtain ⟨rfl, rfl, rfl⟩ := h2' hb
      exact ⟨rfl, rfl, rfl⟩
  · obtain ⟨rfl, rfl, rfl⟩ := h.no c
    obtain ⟨rfl, rfl, rfl⟩ := h'.no c
    exact ⟨rfl, rfl, rfl⟩
theorem DualQ.small {p : Int} {rows : List (List Int)} {p1 : Int} {a : List (List Int)} {x : Bool} (h : DualQ p rows p1 a x) : a.length ≤ 1048576 ∧ ∀ i, i < a.length → (gr a i).length ≤ 1048576 := by
  by_cases c : ValidC p rows
  · obtain ⟨k, hk, h1, h2⟩ := h.yes c
    have hb := hk.bounds
    have h7 := c.few.2.2.2.1
    cases hb' : inB k.length 1 4 with
    | true =>
      rw [(h1 hb').2.1]
      exact ⟨by omega, fun i hi => by have := hb.2 i hi; omega⟩
    | false => rw [(h2 hb').2.1]; simp
  · rw [(h.no c).2.1]; simp

set_option maxRecDepth 100000 in
set_option maxHeartbeats 1000000 in
theorem implDualOf_any (p : Int) (v : Value) (rows : List (List Int)) (w : World) (hr : IsR w v rows) :
    Calls Try.prog 17 #[.agg #[.int .i64 p, v]] w fun e w' => GivesCB w e w' (DualQ p rows) := by
  obtain ⟨ao, n, cap, rfl, HN, hn⟩ := hr.shape
  have HR := Lib.hid hr
  clear hr
  obtain ⟨w1, hw1⟩ : ∃ w1 : World, w1 = w.alloc (.cells #[.int .i64 p, .slice ao n cap] 25) := ⟨_, rfl⟩
  have b1 := Blk2.alloc w (.int .i64 p) (.slice ao n cap) 25
  have h1 : New w w1 := by rw [hw1]; exact New.alloc _ _
  have hs1 : w1.heap.size = w.heap.size + 1 := by rw [hw1, World.size_alloc]
  have r1 := Blk2.alloc w1 (.int .i64 0) (.slice none 0 0) 25
  rw [hs1] at r1
  rw [← hw1] at b1
  go_enter Try.func17, Try.ntmps17
  go_wp2_with fail
  rw [← hw1]
  have h2 := h1.trans (New.alloc w1 (.cells #[.int .i64 0, .slice none 0 0] 25))
  replace b1 := b1.new (New.alloc w1 (.cells #[.int .i64 0, .slice none 0 0] 25))
  refine (known_any _ _ rows _ (HR.out.new h2)).mono ?_
  rintro e w2 ⟨⟨b, rfl, hb⟩, hn2⟩
  replace b1 := b1.new hn2
  replace r1 := r1.new hn2
  replace h2 := h2.trans hn2
  have HB := Lib.hid hb
  clear hb hn2 hw1 h1 hs1
  obtain ⟨c0, c1, _, _⟩ := b1.cells
  obtain ⟨d0, d1, f0, f1⟩ := r1.cells
  have hsz : w.heap.size + 1 < w2.heap.size := (Array.getElem?_eq_some_iff.1 r1).1
  cases b with
  | false =>
    go_wp2_with fail
    obtain ⟨x0, x1, hx⟩ := r1.put (.int .i64 0) (.slice none 0 0)
    refine bodyPost_ret (v := .tuple #[.agg #[.int .i64 0, .slice none 0 0], .bool false]) (by simp [results, go_sem, x0, x1]) rfl ?_
    exact ⟨_, [], [], 0, false, rfl, ⟨Own.nil _ _, rfl, (fun i hi => by simp at hi), (fun i j hi => by simp at hi)⟩, ⟨(fun g hg => by simp [Value.ownBlock] at hg), (fun i hi => by simp at hi)⟩,
      ⟨(fun h => by have := HB.out.2 h; cases this), fun _ => ⟨rfl, rfl, rfl⟩⟩, h2.then hx (fun i hi => by omega)⟩
  | true =>
    have hv := HB.out.1 rfl
    have hf := hv.few
    obtain ⟨q, rfl, hq⟩ := prime_nat (vtB_pr hv.1)
    haveI := hq.nz
    have hc7 : (gr rows 0).length ≤ 7 := by omega
    have HV := Lib.hid hv
    have HQ := Lib.hid hq
    have HC7 := Lib.hid hc7
    clear hv hf hq HB hc7
    go_wp2_with fail
    refine (implNulls_c q _ _ rows _ (HR.out.new h2) (vtB_ok HV.out.1)).mono ?_
    rintro e w4 ⟨u, vs, out, rfl, hnul, ho, hf, hn4⟩
    have hb := hnul.bounds
    have hol : out.length ≤ 7 := Nat.le_trans hb.1 HC7.out
    obtain ⟨au, nu, cu, rfl, HU, hnu, _⟩ := ho.outer.opened (by rw [ho.len]; unfold Mid; omega)
    have hnue : nu = out.length := by rw [HU.out, ho.len]
    have HNU := Lib.hid hnue
    have HK := Lib.hid (And.intro ho (And.intro hf (And.intro hnul (h2.trans hn4))))
    have r4 := r1.new hn4
    obtain ⟨g0, g1, k0, k1⟩ := r4.cells
    obtain ⟨m0, m1, _, _⟩ := (b1.new hn4).cells
    clear ho hf hnul hn4 hb hnue c0 c1 d0 d1 f0 f1 b1 r1 h2
    cases hin : inB nu 1 4 with
    | false =>
      have HIN := Lib.hid hin
      clear hin
      go_wp2_with (go_at_call 66; refine (within_any _ _ _ _).mono ?_; rintro e w' ⟨rfl, rfl⟩; rw [HIN.out])
      obtain ⟨x0, x1, hx⟩ := r4.put (.int .i64 0) (.slice none 0 0)
      refine bodyPost_ret (v := .tuple #[.agg #[.int .i64 0, .slice none 0 0], .bool false]) (by simp [results, go_sem, x0, x1]) rfl ?_
      exact ⟨_, [], [], 0, false, rfl, ⟨Own.nil _ _, rfl, (fun i hi => by simp at hi), (fun i j hi => by simp at hi)⟩, ⟨(fun g hg => by simp [Value.ownBlock] at hg), (fun i hi => by simp at hi)⟩,
      ⟨fun _ => ⟨out, HK.out.2.2.1, (fun h => by rw [← HNU.out, HIN.out] at h; cases h), fun _ => ⟨rfl, rfl, rfl⟩⟩, fun h => absurd HV.out h⟩, HK.out.2.2.2.then hx (fun i hi => by omega)⟩
    | true =>
      have HIN := Lib.hid hin
      clear hin
      go_wp2_with (go_at_call 66; refine (within_any _ _ _ _).mono ?_; rintro e w' ⟨rfl, rfl⟩; rw [HIN.out])
      obtain ⟨x0, x1, hx⟩ := r4.put (.int .i64 q) (.slice au nu cu)
      refine bodyPost_ret (v := .tuple #[.agg #[.int .i64 q, .slice au nu cu], .bool true]) (by simp [results, go_sem, x0, x1]) rfl ?_
      obtain ⟨ho, hf, hnul, hn⟩ := HK.out
      have hf1 : ∀ g, (Value.slice au nu cu).ownBlock = some g → w2.heap.size ≤ g := hf.1
      have hf2 : ∀ i, i < out.length → ∀ g, (gv vs i).ownBlock = some g → w2.heap.size ≤ g := hf.2
      exact ⟨_, vs, out, q, true, rfl, ho.chg hx (fun g hg e => by have := hf1 g hg; omega) (fun i hi g hg e => by have := hf2 i hi g hg; omega),
        ⟨fun g hg => by have := hf1 g hg; omega, fun i hi g hg => by have := hf2 i hi g hg; omega⟩,
        ⟨fun _ => ⟨out, hnul, fun _ => ⟨rfl, rfl, rfl⟩, (fun h => by rw [← HNU.out, HIN.out] at h; cases h)⟩, fun h => absurd HV.out h⟩, hn.then hx (fun i hi => by omega)⟩

end Go.Proofs.Ytaaajekibfaoeaa
